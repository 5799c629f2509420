/-
How often overlays are loaded in a walk, in plain Lean. No conditions.
What Loads computes. Condition: the arguments are a slice of modules and a slice of texts.
What slices.Max and ends compute. Condition: modules that Validate lets in.
What Sizes computes. Condition: the argument is a slice of modules.
What over and heavyTexts of the laws compute. Condition: the arguments are slices.
That the document's example comes out as the document says. No conditions.
What another overlay changes in modules; rows of one's own whose elements are many cells. No conditions.
That LinkWhole returns true. Condition: the arguments are a slice of modules, a text and a slice of texts.
What the reference's isName computes. Condition: the text is one that a machine can hold.
What the reference's isLarge computes. Condition: the argument is a slice of modules.
What the reference's isModule computes. Condition: the argument is a module.
What the reference's Validate computes. Condition: the argument is a slice of modules.
What the reference's all computes. Condition: modules that Validate lets in.
What the reference's find computes. Condition: a slice of procedures.
What the reference's set computes. Condition: a slice of at most 1,000,000 texts.
What the reference's missing, whole and from compute. Condition: the argument is a slice of modules (for missing: modules that Validate lets in).
What the reference's whole and from compute. Condition: the argument is a slice of modules.
-/
import Derived.Test.YtchhjldopecliaaK1
import Derived.Deep.RegionHeld3
namespace Go.Proofs.Ytchhjldopecliaa
open Go.RowKit

/-! ### how often overlays are loaded -/
def clOf (ps : List Pc) (x : Str) : List Str := ((fnd x ps).map (·.cl)).getD []
def ovOf (ps : List Pc) (x : Str) : Int := ((fnd x ps).map (·.ov)).getD 0
/-- A step of a walk; the top of the stack stands first. -/
def lStep (ps : List Pc) (top : Str) (rest : List Str) (s : Str) : Option (Str × List Str) :=
  if s = ByteArray.empty then (match rest with | [] => none | t :: r => some (t, r)) else if s ∈ clOf ps top then some (s, top :: rest) else none
def lRun (ps : List Pc) : Str → List Str → Int × Int → List Str → Option Int
  | _, _, r, [] => some r.2
  | top, rest, r, s :: w => match lStep ps top rest s with
    | none => none
    | some (t, l) => lRun ps t l (entR r (ovOf ps t)) w
def ldsR (ps : List Pc) (x : Str) (walk : List Str) : Int × Int := match lRun ps x [] (entR (0, 0) (ovOf ps x)) walk with
  | none => (0, 7)
  | some n => (n, 0)
/-- What Loads tells. -/
def lds (ms : List Md) (x : Str) (walk : List Str) : Int × Int :=
  if opf ms x ≠ 0 then (0, opf ms x) else if 1000 < walk.length then (0, 3) else ldsR (prs ms) x walk

theorem entR_loads (r : Int × Int) (o : Int) : r.2 ≤ (entR r o).2 ∧ (entR r o).2 ≤ r.2 + 1 := by
  unfold entR
  split <;> simp <;> omega
theorem opn_there {ms : List Md} (h : opn ms = 0) {p : Pc} (hp : p ∈ prs ms) {s : Str} (hs : s ∈ p.cl) : ∃ q, fnd s (prs ms) = some q := by
  cases hf : fnd s (prs ms) with
  | some q => exact ⟨q, rfl⟩
  | none =>
    have hm : s ∈ missS (prs ms) := mem_setS.2 (mem_missL.2 ⟨⟨p, hp, hs⟩, hf⟩)
    have hl : 0 < (missS (prs ms)).length := List.length_pos_of_mem hm
    unfold opn at h
    split at h
    · rename_i h1; exact absurd h h1
    · first | cases h | (rw [if_pos hl] at h; cases h)
end Go.Proofs.Ytchhjldopecliaa
namespace Go.Proofs.Ytchhjldopecliaa
open Go.RowKit

theorem lds_of {ms : List Md} {x : Str} {walk : List Str} (h : opf ms x = 0) (hw : ¬ 1000 < walk.length) : lds ms x walk = ldsR (prs ms) x walk := by
  simp [lds, h, hw]

/-- A stack: the top first; the row holds it from below. -/
structure Stk (w : World) (B : Nat) (v : Value) (top : Str) (rest : List Str) : Prop where
  own : w.ownsRow B 9 1 v (rest.length + 1) ((top :: rest).reverse.map Value.string)
theorem Stk.form {w : World} {B : Nat} {v : Value} {top : Str} {rest : List Str} (h : Stk w B v top rest) :
    ∃ g cap, v = .slice (some ⟨g, 0, none⟩) (rest.length + 1) cap ∧ B ≤ g ∧ g < w.heap.size ∧ rest.length + 1 ≤ cap ∧ cap ≤ maxLen ∧ w.cell? ⟨g, rest.length, none⟩ = some (.string top) := by
  rcases h.own.2 with ⟨_, h0⟩ | ⟨g, cap, cur, rfl, hb, hg, hnc, hcm, hcs, ht⟩
  · omega
  · refine ⟨g, cap, rfl, hb, (Array.getElem?_eq_some_iff.1 hg).1, hnc, hcm, ?_⟩
    have := h.own.cells (g := g) rfl rest.length (.string top) (by
      rw [List.getElem?_map, List.reverse_cons, List.getElem?_append_right (by simp)]
      simp)
    have ha : (⟨g, 0, none⟩ : Addr).add rest.length = ⟨g, rest.length, none⟩ := by unfold Addr.add; split <;> simp_all
    rwa [ha] at this
theorem Stk.pop {w : World} {B : Nat} {g cap : Nat} {top t : Str} {rest : List Str} (h : Stk w B (.slice (some ⟨g, 0, none⟩) ((t :: rest).length + 1) cap) top (t :: rest)) :
    Stk w B (.slice (some ⟨g, 0, none⟩) (rest.length + 1) cap) t rest := by
  rcases h.own.2 with ⟨h0, _⟩ | ⟨g', cap', cur, e, hb, hg, hnc, hcm, hcs, ht⟩
  · cases h0
  · injection e with e1 e2 e3
    injection e1 with e1
    injection e1 with e1
    subst e1 e3
    refine ⟨by simp, .inr ⟨g, cap, cur, rfl, hb, hg, by simp at hnc; omega, hcm, hcs, ?_⟩⟩
    have h2 := congrArg (List.take (rest.length + 1)) ht
    rw [List.take_take] at h2
    simp only [List.length_cons, Nat.mul_one] at h2 ⊢
    rw [Nat.min_eq_left (by omega)] at h2
    rw [h2]
    rw [← List.map_take]
    congr 1
    rw [List.reverse_cons, List.take_append_of_le_length (by simp)]
    exact List.take_of_length_le (by simp)

theorem room_set (w : World) (r : Nat) (a l a' l' : Value) (t : TypeId) (h : w.heap[r]? = some (.cells #[a, l] t (0, 0))) :
    ((w.setCell ⟨r, 0, none⟩ a').setCell ⟨r, 1, none⟩ l').heap[r]? = some (.cells #[a', l'] t (0, 0)) ∧ w.grownBy ((w.setCell ⟨r, 0, none⟩ a').setCell ⟨r, 1, none⟩ l') (some r) := by
  refine ⟨?_, ⟨rfl, rfl, rfl, by simp [World.setCell], fun i hi hne => ?_⟩⟩
  · simp [World.setCell, Array.getElem?_modify, h]
  · simp only [World.setCell]
    have hne' : r ≠ i := fun e => hne (by rw [e])
    simp [Array.getElem?_modify, hne']
theorem wrap_i64 {z : Int} (h1 : -9223372036854775808 ≤ z) (h2 : z < 9223372036854775808) : IntKind.i64.wrap z = z := by
  simp only [IntKind.wrap, IntKind.bits, IntKind.signed]
  simp
  omega
theorem field64_0 (o : Int) (A : Option Addr) (n c : Nat) (W : World) : (Instr.field 64 (.agg #[.int .i64 o, .slice A n c]) 0).run Try.prog W = .ok (.int .i64 o) W := by kernel_rfl
theorem field64_1 (o : Int) (A : Option Addr) (n c : Nat) (W : World) : (Instr.field 64 (.agg #[.int .i64 o, .slice A n c]) 1).run Try.prog W = .ok (.slice A n c) W := by kernel_rfl

set_option maxRecDepth 100000 in
set_option maxHeartbeats 4000000 in
theorem c_Loads (A : Option Addr) (n c : Nat) (ms : List Md) (x : Str) (A2 : Option Addr) (n2 c2 : Nat) (walk : List Str) (w : World) (h : SlR w 5 RMd A n c ms) (h2 : SlR w 1 RStr A2 n2 c2 walk) :
    Calls Try.prog 17 #[.slice A n c, .string x, .slice A2 n2 c2] w fun e w' => e = .returned (.tuple #[.int .i64 (lds ms x walk).1, .int .i64 (lds ms x walk).2]) ∧ Below w.heap.size w w' := by
  have hlim := h.lim
  have hlim2 := h2.lim
  have H := Box.mk h
  have H2 := Box.mk h2
  clear h h2
  go_enter Try.func17, Try.ntmps17
  go_wp2_with fail
  refine (c_openFrom A n c ms x w H.out).mono ?_
  rintro e w1 ⟨⟨v, rfl, hv⟩, hb1⟩
  have HB1 := Box.mk hb1
  clear hb1
  by_cases h0 : opf ms x = 0
  · obtain ⟨hop, hg, ⟨p0, hp0⟩, b, rfl, hm, hbl⟩ := hv h0
    have HTH : Box (∀ p ∈ prs ms, ∀ s ∈ p.cl, ∃ q, fnd s (prs ms) = some q) := ⟨fun p hp s hs => opn_there hop hp hs⟩
    have HLD : Box (lds ms x walk = if 1000 < walk.length then (0, 3) else ldsR (prs ms) x walk) := ⟨by simp [lds, h0]⟩
    have HM := Box.mk hm
    have HP0 := Box.mk hp0
    have HBL := Box.mk hbl
    have HL := Box.mk H2.out.len
    rw [h0]
    clear hop hg hm hbl hp0 h0 hv
    generalize hps : prs ms = ps at *
    clear hps
    by_cases hn2 : 1000 < n2
    · go_wp2_with fail
      go_ret2
      exact ⟨by rw [HLD.out, HL.out, if_pos hn2]; rfl, HB1.out⟩
    · obtain ⟨kvs, hk, hpv⟩ := HM.out
      obtain ⟨v0, hv0, A7, n7, c7, rfl, hq⟩ := hpv.get_some HP0.out
      have e0 : ∀ W : World, Below w1.heap.size w1 W → (Instr.lookup 57 (.map (some b)) (.string x) false).run Try.prog W = .ok (.agg #[.int .i64 p0.ov, .slice A7 n7 c7]) W := fun W hW => ((hk.below hW).look keyS Try.underlying57 (zero_proc W) hv0).1
      have hlk := e0 _ (bel_alloc w1 (.cells #[.string x] 9))
      have hfd := field64_0 p0.ov A7 n7 c7
      clear hk hpv hv0 hq e0
      go_wp2_with fail
      refine (c_enter 0 0 p0.ov _ (by omega)).mono ?_
      rintro e w2 ⟨rfl, hb2⟩
      have HB2 : Box (Below w1.heap.size w1 w2) := ⟨below_tr (bel_alloc w1 (.cells #[.string x] 9)) (by simp) hb2⟩
      have HR0 : Box (entR (0, 0) (ovOf ps x) = entR (0, 0) p0.ov) := ⟨by simp [ovOf, HP0.out]⟩
      have HG2 : Box (w2.heap[w1.heap.size]? = some (.cells #[.string x] 9 (0, 0)) ∧ w1.heap.size < w2.heap.size) := ⟨by
        refine ⟨?_, by have := hb2.size; simp at this; omega⟩
        rw [hb2.block w1.heap.size (by simp)]
        exact heap_alloc_new w1 _⟩
      have HE0 : Box (0 ≤ (entR (0, 0) p0.ov).2 ∧ (entR (0, 0) p0.ov).2 ≤ 1) := ⟨by have := entR_loads (0, 0) p0.ov; simpa using this⟩
      clear hb2 hlk hfd
      go_wp2_with fail
      rw [show entR (0, 0) p0.ov = ((entR (0, 0) p0.ov).1, (entR (0, 0) p0.ov).2) from rfl] at HR0
      have HBW : Box (Below w1.heap.size w1 (w2.alloc (.cells #[.int .i64 (entR (0, 0) p0.ov).1, .int .i64 (entR (0, 0) p0.ov).2] 61))) := ⟨bel_alloc2 HB2.out _⟩
      have HS0 : Box (Stk (w2.alloc (.cells #[.int .i64 (entR (0, 0) p0.ov).1, .int .i64 (entR (0, 0) p0.ov).2] 61)) w1.heap.size (.slice (some ⟨w1.heap.size, 0, none⟩) 1 1) x []) := ⟨⟨rfl, .inr ⟨w1.heap.size, 1, #[.string x], rfl, Nat.le_refl _, (Below.heap_alloc _ _ _ HG2.out.2).trans HG2.out.1, Nat.le_refl _, by decide, rfl, rfl⟩⟩⟩
      have HC0 : Box ((w2.alloc (.cells #[.int .i64 (entR (0, 0) p0.ov).1, .int .i64 (entR (0, 0) p0.ov).2] 61)).heap[w2.heap.size]? = some (.cells #[.int .i64 (entR (0, 0) p0.ov).1, .int .i64 (entR (0, 0) p0.ov).2] 61 (0, 0))) := ⟨heap_alloc_new w2 _⟩
      have HT0 : Box (∀ t ∈ [x], ∃ p ∈ ps, fnd t ps = some p) := ⟨fun t ht => by
        obtain rfl : t = x := by simpa using ht
        exact ⟨p0, (fnd_some HP0.out).1, HP0.out⟩⟩
      go_loopw [10, 12, 14, 15, 38] (fun v10 v12 _ _ i wr => ∃ (k : Nat) (top : Str) (rest : List Str) (a l : Int), k ≤ n2 ∧ i = .int .i64 k ∧ v12 = .bool true ∧ Box (Stk wr w1.heap.size v10 top rest) ∧ Box (Below w1.heap.size w1 wr) ∧
        Box (wr.heap[w2.heap.size]? = some (.cells #[.int .i64 a, .int .i64 l] 61 (0, 0))) ∧ Box (lRun ps x [] (entR (0, 0) (ovOf ps x)) walk = lRun ps top rest (a, l) (walk.drop k)) ∧ Box (0 ≤ l ∧ l ≤ k + 1) ∧
        Box (∀ t ∈ top :: rest, ∃ p ∈ ps, fnd t ps = some p) ∧ Box (rest.length ≤ k) ∧ Box (v10.ownBlock ≠ some w2.heap.size)) (fun _ _ _ _ i _ => n2 - (intOf i).toNat)
      case atStart => exact ⟨0, x, [], _, _, Nat.zero_le _, rfl, rfl, HS0, HBW, HC0, ⟨by rw [HR0.out]; rfl⟩, ⟨by simpa using HE0.out⟩, HT0, ⟨Nat.le_refl _⟩, ⟨fun e => by
        injection e with e
        have e : w1.heap.size = w2.heap.size := e
        have := HG2.out.2
        omega⟩⟩
      case round =>
        clear HBW HS0 HC0 HT0 HE0
        obtain ⟨k, top, rest, a, l, hk, rfl, rfl, HS, HB, HC, HRUN, HLL, HT, HRL, HNE⟩ := hrel
        by_cases hlt : k < n2
        · obtain ⟨b5, o5, s, rfl, hb5, hx5, hs5, hc5⟩ := H2.out.str_at k hlt
          have HBw : Box (Below w.heap.size w wr) := ⟨below_tr HB1.out HB1.out.size HB.out⟩
          replace hc5 := cellk HBw.out hb5 hc5
          have HX : Box (walk.drop k = s :: walk.drop (k + 1)) := ⟨by
            obtain ⟨h1, h2⟩ := List.getElem?_eq_some_iff.1 hx5
            rw [← h2]
            exact List.drop_eq_getElem_cons h1⟩
          obtain ⟨g, cap, rfl, hgB, hgl, hcap, hcm, htop⟩ := HS.out.form
          have hrl := HRL.out
          clear hx5 hs5
          go_upto_block 2 with fail
          go_cut [10, 12] (fun s10 s12 wx => Box (Below w1.heap.size w1 wx) ∧ Box (wx.heap[w2.heap.size]? = some (.cells #[.int .i64 a, .int .i64 l] 61 (0, 0))) ∧
            ((s12 = .bool false ∧ Box (lStep ps top rest s = none)) ∨ (s12 = .bool true ∧ ∃ t' r', Box (lStep ps top rest s = some (t', r')) ∧ Box (Stk wx w1.heap.size s10 t' r') ∧ Box (s10.ownBlock ≠ some w2.heap.size) ∧ Box (∀ t ∈ t' :: r', ∃ p ∈ ps, fnd t ps = some p) ∧ Box (r'.length ≤ k + 1))))
          case first =>
            by_cases hse : s = ByteArray.empty
            · subst hse
              cases rest with
              | nil =>
                have hst : Box (lStep ps top [] ByteArray.empty = none) := ⟨by simp [lStep]⟩
                go_wp2_with fail
                go_meet
                exact ⟨HB, HC, .inl ⟨rfl, hst⟩⟩
              | cons t r =>
                have hst : Box (lStep ps top (t :: r) ByteArray.empty = some (t, r)) := ⟨by simp [lStep]⟩
                have hp := HS.out.pop
                have HP := Box.mk hp
                clear hp
                simp only [List.length_cons] at hrl hcap htop
                go_wp2_with fail
                go_meet
                refine ⟨HB, HC, .inr ⟨rfl, t, r, hst, ?_, ?_, ⟨fun q hq => HT.out q (List.mem_cons_of_mem _ hq)⟩, ⟨by omega⟩⟩⟩
                · exact HP
                · exact HNE
            · obtain ⟨p, hp, hpf⟩ := HT.out top (List.mem_cons_self ..)
              obtain ⟨kvs, hk, hpv⟩ := HM.out
              obtain ⟨v0, hv0, A8, n8, c8, rfl, hq⟩ := hpv.get_some hpf
              have hlk : (Instr.lookup 57 (.map (some b)) (.string top) false).run Try.prog wr = .ok (.agg #[.int .i64 p.ov, .slice A8 n8 c8]) wr := ((hk.below HB.out).look keyS Try.underlying57 (zero_proc wr) hv0).1
              have hq' := hq.below mono_str HB.out
              have HQ := Box.mk hq'
              have hcl : Box (clOf ps top = p.cl) := ⟨by simp [clOf, hpf]⟩
              have HPS := Box.mk hp
              have hfd := field64_1 p.ov A8 n8 c8
              have HSE := Box.mk hse
              have hse1 : (ByteArray.toList s == []) = false := by
                rw [← show ByteArray.toList ByteArray.empty = [] from by simp [ByteArray.toList_eq], tleq]
                simpa using hse
              clear hp hpf hk hpv hv0 hq hq' hse
              go_wp2_with fail
              refine (c_Contains s A8 n8 c8 p.cl wr HQ.out).mono ?_
              rintro e w3 ⟨rfl, rfl⟩
              by_cases hin : s ∈ p.cl
              · have hd : decide (s ∈ p.cl) = true := by simpa using hin
                rw [hd]
                have hst : Box (lStep ps top rest s = some (s, top :: rest)) := ⟨by simp [lStep, HSE.out, hcl.out, hin]⟩
                have HIN := Box.mk hin
                clear hd hin
                go_wp2_with (at_builtin; refine wpL_app _ w1.heap.size rfl _ _ 23 9 rfl (.string ByteArray.empty) 1 16 Try.underlying23 info_str rfl (by decide) (by decide) (.slice (some ⟨g, 0, none⟩) (rest.length + 1) cap) (rest.length + 1) ((top :: rest).reverse.map Value.string) rfl (HS.out.own.alloc _) (some ⟨_, 0, none⟩) 1 1 [.string s] rfl (src_at _ _ _ _ (by simp) rfl) (by omega) (by have := HB.out.size; simp; omega) ?_; intro v3' wa ho3 hg3' hat3)
                have hg3 : wr.grownBy wa (some g) := ⟨hg3'.os, hg3'.tape, hg3'.output, by have := hg3'.size; simp at this; omega, fun i hi hne => by rw [hg3'.block i (by simp; omega) hne, Below.heap_alloc _ _ _ hi]⟩
                have HO3 := Box.mk ho3
                have HG3 := Box.mk hg3
                have HAT := Box.mk hat3
                clear hg3' hg3 ho3 hat3
                go_meet
                have hgne : g ≠ w2.heap.size := fun e => HNE.out (by rw [e]; rfl)
                have hR0 : w2.heap.size < wr.heap.size := (Array.getElem?_eq_some_iff.1 HC.out).1
                refine ⟨⟨HB.out.grown HG3.out HB.out.size (fun q hq => by injection hq with hq; omega)⟩, ⟨(HG3.out.block _ hR0 (fun e => by injection e with e; exact hgne e.symm)).trans HC.out⟩, .inr ⟨rfl, s, top :: rest, hst, ⟨⟨?_⟩⟩, ⟨?_⟩, ⟨fun q hq => ?_⟩, ⟨by simp; omega⟩⟩⟩
                · have := HO3.out
                  rw [List.reverse_cons, List.map_append]
                  exact this
                · rcases HAT.out with e | e
                  · rw [e]; exact HNE.out
                  · rw [e]; intro e'; injection e' with e'; simp at e'; omega
                · rcases List.mem_cons.1 hq with rfl | hq
                  · obtain ⟨z, hz⟩ := HTH.out p HPS.out _ HIN.out
                    exact ⟨z, (fnd_some hz).1, hz⟩
                  · exact HT.out q hq
              · have hd : decide (s ∈ p.cl) = false := by simpa using hin
                rw [hd]
                have hst : Box (lStep ps top rest s = none) := ⟨by simp [lStep, HSE.out, hcl.out, hin]⟩
                clear hd hin
                go_wp2_with fail
                go_meet
                exact ⟨HB, HC, .inl ⟨rfl, hst⟩⟩
          case rest =>
            obtain ⟨HBc, HCc, hor⟩ := hcut
            rcases hor with ⟨rfl, hst⟩ | ⟨rfl, t', r', hst, HSc, HNEc, HTc, HRLc⟩
            · have HR : Box (ldsR ps x walk = (0, 7)) := ⟨by unfold ldsR; rw [HRUN.out, HX.out]; unfold lRun; rw [hst.out]⟩
              go_wp2_with fail
              go_ret2
              have e : lds ms x walk = (0, 7) := by rw [HLD.out, HL.out, if_neg hn2, HR.out]
              exact ⟨by rw [e]; rfl, below_tr HB1.out HB1.out.size HBc.out⟩
            · obtain ⟨g', cap', rfl, hgB', hgl', hcap', hcm', htop'⟩ := HSc.out.form
              obtain ⟨p, hp, hpf⟩ := HTc.out t' (List.mem_cons_self ..)
              obtain ⟨kvs, hk, hpv⟩ := HM.out
              obtain ⟨v0, hv0, A8, n8, c8, rfl, hq⟩ := hpv.get_some hpf
              have hlk : (Instr.lookup 57 (.map (some b)) (.string t') false).run Try.prog wc.drew = .ok (.agg #[.int .i64 p.ov, .slice A8 n8 c8]) wc.drew := ((hk.below HBc.out).drew.look keyS Try.underlying57 (zero_proc wc.drew) hv0).1
              have hfd := field64_0 p.ov A8 n8 c8
              have hov : Box (ovOf ps t' = p.ov) := ⟨by simp [ovOf, hpf]⟩
              have dd0 : wc.cell? ⟨w2.heap.size, 0, none⟩ = some (.int .i64 a) := by simp [World.cell?, HCc.out]
              have dd1 : wc.cell? ⟨w2.heap.size, 1, none⟩ = some (.int .i64 l) := by simp [World.cell?, HCc.out]
              have hrl' := HRLc.out
              have hll := HLL.out
              have hR0 : w2.heap.size < wc.heap.size := (Array.getElem?_eq_some_iff.1 HCc.out).1
              have CE : Box (∀ W, Calls Try.prog 46 #[.agg #[.int .i64 a, .int .i64 l], .int .i64 p.ov] W fun e w' => e = .returned (.agg #[.int .i64 (entR (a, l) p.ov).1, .int .i64 (entR (a, l) p.ov).2]) ∧ Below W.heap.size W w') := ⟨fun W => c_enter a l p.ov W (by omega)⟩
              have hwr : IntKind.i64.wrap (r'.length : Int) = r'.length := wrap_i64 (by omega) (by omega)
              clear hp hpf hk hpv hv0 hq htop
              go_upto_region 20 with fail
              go_region_with (refine (CE.out _).mono ?_; rintro e w3 ⟨rfl, hb3⟩; have hc3 := (hb3.block _ hR0).trans HCc.out; have e0 : w3.cell? ⟨w2.heap.size, 0, none⟩ = some (.int .i64 a) := (by simp [World.cell?, hc3]); have e1 : w3.cell? ⟨w2.heap.size, 1, none⟩ = some (.int .i64 l) := (by simp [World.cell?, hc3]); have f0 : w3.frozen? ⟨w2.heap.size, 0, none⟩ = false := (by simp [World.frozen?, hc3]); have f1 : w3.frozen? ⟨w2.heap.size, 1, none⟩ = false := (by simp [World.frozen?, hc3]); have HC3 := Box.mk hc3; have HB3 : Box (Below wc.heap.size wc w3) := ⟨⟨hb3.os, hb3.tape, hb3.output, hb3.size, hb3.block⟩⟩; clear hc3 hb3)
              all_goals
                obtain ⟨hc4, hg4⟩ := room_set w3 w2.heap.size _ _ (.int .i64 (entR (a, l) p.ov).1) (.int .i64 (entR (a, l) p.ov).2) 61 HC3.out
                have HC4 := Box.mk hc4
                have HG4 := Box.mk hg4
                have hR3 : w1.heap.size ≤ w2.heap.size := HB2.out.size
                have HB4 : Box (Below w1.heap.size w1 w3) := ⟨below_tr HBc.out HBc.out.size HB3.out⟩
                have HB5 : Box (Below w1.heap.size w1 ((w3.setCell ⟨w2.heap.size, 0, none⟩ (.int .i64 (entR (a, l) p.ov).1)).setCell ⟨w2.heap.size, 1, none⟩ (.int .i64 (entR (a, l) p.ov).2))) := ⟨HB4.out.grown HG4.out HB4.out.size (fun q hq => by injection hq with hq; omega)⟩
                have HS5 : Box (Stk ((w3.setCell ⟨w2.heap.size, 0, none⟩ (.int .i64 (entR (a, l) p.ov).1)).setCell ⟨w2.heap.size, 1, none⟩ (.int .i64 (entR (a, l) p.ov).2)) w1.heap.size (.slice (some ⟨g', 0, none⟩) (r'.length + 1) cap') t' r') := ⟨⟨own_other (own_below HSc.out.own HB3.out) HG4.out (.inr (fun e => HNEc.out (by rw [e])))⟩⟩
                have HLL' := entR_loads (a, l) p.ov
                have HLQ := Box.mk HLL'
                clear hc4 hg4 HLL' e0 e1 f0 f1 hR3
                generalize ((w3.setCell ⟨w2.heap.size, 0, none⟩ (.int .i64 (entR (a, l) p.ov).1)).setCell ⟨w2.heap.size, 1, none⟩ (.int .i64 (entR (a, l) p.ov).2)) = w5 at *
                go_wp2_with fail
                go_roundw
                case rel =>
                  refine ⟨k + 1, t', r', _, _, by omega, by go_num, rfl, HS5, HB5, HC4, ⟨?_⟩, ⟨by have := HLQ.out; have := HLL.out; simp at *; omega⟩, HTc, ⟨by omega⟩, HNEc⟩
                  rw [HRUN.out, HX.out]
                  conv => lhs; unfold lRun
                  rw [hst.out]
                  show lRun ps t' r' (entR (a, l) (ovOf ps t')) _ = _
                  rw [hov.out]
                case measure => simp [intOf]; omega
        · obtain rfl : k = n2 := by omega
          have hd : walk.drop k = [] := List.drop_eq_nil_of_le (by rw [HL.out]; exact Nat.le_refl _)
          have HR : Box (ldsR ps x walk = (l, 0)) := ⟨by unfold ldsR; rw [HRUN.out, hd]; rfl⟩
          have dd1 : wr.cell? ⟨w2.heap.size, 1, none⟩ = some (.int .i64 l) := by simp [World.cell?, HC.out]
          clear hd
          go_wp2_with fail
          go_ret2
          have e : lds ms x walk = (l, 0) := by rw [HLD.out, HL.out, if_neg hn2, HR.out]
          exact ⟨by rw [e]; rfl, below_tr HB1.out HB1.out.size HB.out⟩
  · have HLD : Box (lds ms x walk = (0, opf ms x)) := ⟨by simp [lds, h0]⟩
    have h0' : ¬ ((opf ms x : Int) == 0) = true := by simpa using h0
    clear hv
    go_wp2_with fail
    go_ret2
    exact ⟨by rw [HLD.out]; rfl, HB1.out⟩
end Go.Proofs.Ytchhjldopecliaa
namespace Go.Proofs.Ytchhjldopecliaa
open Go.RowKit

def maxOf (a b : Int) : Int := if a < b then b else a
def mxL : List Int → Int
  | [] => 0
  | x :: r => r.foldl max x

set_option maxHeartbeats 1000000 in
theorem c_Max (A : Option Addr) (n c : Nat) (xs : List Int) (w : World) (h : SlR w 1 RInt A n c xs) (hn : 0 < n) :
    Calls Try.prog 57 #[.slice A n c] w fun e w' => e = .returned (.int .i64 (mxL xs)) ∧ w = w' := by
  have hlim := h.lim
  have H := Box.mk h
  obtain ⟨b0, o0, x0, rfl, hb0, hx0, hc0⟩ := h.int_at 0 hn
  have HX0 : Box (mxL (xs.take 1) = x0) := ⟨by
    cases xs with
    | nil => cases hx0
    | cons a r => simp at hx0; subst hx0; rfl⟩
  rw [Nat.add_zero] at hc0
  clear h hx0
  go_enter Try.func57, Try.ntmps57
  go_wp2_with fail
  go_loop [3, 4] (fun t i => ∃ k : Nat, 1 ≤ k ∧ k ≤ n ∧ i = .int .i64 k ∧ t = .int .i64 (mxL (xs.take k))) (fun _ i => n - (intOf i).toNat)
  case atStart => exact ⟨1, Nat.le_refl _, hn, rfl, by rw [HX0.out]⟩
  case round =>
    obtain ⟨k, hk1, hk, rfl, rfl⟩ := hrel
    by_cases hlt : k < n
    · obtain ⟨b, off, x, e, hb, hx, hc⟩ := H.out.int_at k hlt
      injection e with e
      injection e with e1 e2
      subst e1 e2
      have HE : Box (mxL (xs.take (k + 1)) = max (mxL (xs.take k)) x) := ⟨by
        rw [List.take_add_one, hx]
        cases xs with
        | nil => cases hx
        | cons a r =>
          match k, hk1 with
          | k + 1, _ => simp [mxL, List.take_succ_cons, List.foldl_append]⟩
      clear hx
      generalize mxL (xs.take k) = z at HE
      go_wp2_with fail
      refine ⟨⟨k + 1, by omega, by omega, by go_num, vi (by rw [HE.out])⟩, ?_⟩
      simp [intOf]; omega
    · go_wp2_with fail
      go_ret
      obtain rfl : k = n := by omega
      exact ⟨ret_int (by rw [List.take_of_length_le (by rw [H.out.len]; exact Nat.le_refl _)]), rfl⟩

/-! ### the sizes of the overlays -/
def endAt (ms : List Md) (o : Nat) : Int := ((ms.filter (fun m => decide (m.ov = (o : Int)))).map (fun m => m.sz.sum)).sum
def endsL (ms : List Md) : List Int := (List.range 16).map (endAt ms)
theorem endsL_length (ms : List Md) : (endsL ms).length = 16 := by simp [endsL]
theorem endAt_take {ms : List Md} {k : Nat} {m : Md} (h : ms[k]? = some m) (o : Nat) : endAt (ms.take (k + 1)) o = endAt (ms.take k) o + (if m.ov = (o : Int) then m.sz.sum else 0) := by
  unfold endAt
  rw [List.take_add_one, h]
  by_cases ho : m.ov = (o : Int)
  · simp [List.filter_append, ho]
  · simp [List.filter_append, ho]
theorem endsL_take {ms : List Md} {k : Nat} {m : Md} (h : ms[k]? = some m) {j : Nat} (hj : m.ov = j) (hj16 : j < 16) :
    endsL (ms.take (k + 1)) = (endsL (ms.take k)).set j (endAt (ms.take k) j + m.sz.sum) := by
  apply List.ext_getElem?
  intro i
  rw [List.getElem?_set]
  by_cases hi : i < 16
  · simp only [endsL, List.getElem?_map, List.length_map, List.length_range, List.getElem?_range hi, Option.map_some, endAt_take h]
    by_cases e : j = i
    · subst e
      simp [hi, hj]
    · have : ¬ m.ov = (i : Int) := by rw [hj]; omega
      simp [this, e]
  · have e1 : ∀ l : List Md, (endsL l)[i]? = none := fun l => List.getElem?_eq_none (by rw [endsL_length]; omega)
    rw [e1, e1, endsL_length]
    simp
    omega
theorem sum_bound {l : List Int} {B : Int} (h : ∀ x ∈ l, 0 ≤ x ∧ x ≤ B) : 0 ≤ l.sum ∧ l.sum ≤ l.length * B := by
  induction l with
  | nil => simp
  | cons x r ih =>
    have h1 := ih (fun m hm => h m (List.mem_cons_of_mem _ hm))
    have h2 := h x (List.mem_cons_self ..)
    simp only [List.sum_cons, List.length_cons]
    have e : ((r.length + 1 : Nat) : Int) * B = r.length * B + B := by rw [Int.natCast_add, Int.add_mul]; simp
    rw [e]
    omega

/-- What a right module holds. -/
theorem Good.md {ms : List Md} (h : Good ms) {m : Md} (hm : m ∈ ms) : 0 ≤ m.ov ∧ m.ov ≤ 15 ∧ (∀ x ∈ m.sz, 1 ≤ x ∧ x ≤ 10000) ∧ m.sz.length ≤ 100 := by
  have hr := h.right m hm
  unfold rightB at hr
  simp only [Bool.and_eq_true, decide_eq_true_eq, Bool.not_eq_true', List.any_eq_false, badSz, Bool.or_eq_true, not_or, Int.not_lt] at hr
  refine ⟨hr.2.2.1, hr.2.2.2.1, fun x hx => hr.2.2.2.2.2 x hx, ?_⟩
  rw [(h.fit hm).1]
  have h1 := h.total
  obtain ⟨k, hk⟩ := List.mem_iff_getElem?.1 hm
  have h2 := sumL_mono ms (k + 1)
  rw [sumL_take hk] at h2
  omega
theorem Good.szsum {ms : List Md} (h : Good ms) {m : Md} (hm : m ∈ ms) : 0 ≤ m.sz.sum ∧ m.sz.sum ≤ 1000000 := by
  obtain ⟨_, _, h1, h2⟩ := h.md hm
  have := sum_bound (l := m.sz) (B := 10000) (fun x hx => by have := h1 x hx; omega)
  omega
theorem Good.endAt_bound {ms : List Md} (h : Good ms) (k o : Nat) : 0 ≤ endAt (ms.take k) o ∧ endAt (ms.take k) o ≤ 32000000 := by
  have h1 : ∀ x ∈ ((ms.take k).filter (fun m => decide (m.ov = (o : Int)))).map (fun m => m.sz.sum), 0 ≤ x ∧ x ≤ 1000000 := by
    intro x hx
    obtain ⟨m, hm, rfl⟩ := List.mem_map.1 hx
    exact h.szsum (List.mem_of_mem_take (List.mem_filter.1 hm).1)
  have h2 := sum_bound h1
  have h3 : (((ms.take k).filter (fun m => decide (m.ov = (o : Int)))).map (fun m => m.sz.sum)).length ≤ 32 := by
    rw [List.length_map]
    exact Nat.le_trans (List.length_filter_le ..) (Nat.le_trans (List.length_take_le' ..) h.len)
  unfold endAt
  omega

/-- An array of the call's own. -/
def Arr (w : World) (r : Nat) (l : List Int) : Prop := w.heap[r]? = some (.cells (l.map (Value.int .i64)).toArray 77 (0, 0))
theorem Arr.cell {w : World} {r : Nat} {l : List Int} (h : Arr w r l) {j : Nat} {x : Int} (hx : l[j]? = some x) : w.cell? ⟨r, j, none⟩ = some (.int .i64 x) := by
  unfold Arr at h
  simp [World.cell?, h, hx]
theorem Arr.frozen {w : World} {r : Nat} {l : List Int} (h : Arr w r l) (j : Nat) : w.frozen? ⟨r, j, none⟩ = false := by
  unfold Arr at h
  simp [World.frozen?, h]
theorem Arr.lt {w : World} {r : Nat} {l : List Int} (h : Arr w r l) : r < w.heap.size := (Array.getElem?_eq_some_iff.1 h).1
theorem Arr.set {w : World} {r : Nat} {l : List Int} (h : Arr w r l) (j : Nat) (x : Int) : Arr (w.setCell ⟨r, j, none⟩ (.int .i64 x)) r (l.set j x) ∧ w.grownBy (w.setCell ⟨r, j, none⟩ (.int .i64 x)) (some r) := by
  refine ⟨?_, ⟨rfl, rfl, rfl, by simp [World.setCell], fun i hi hne => ?_⟩⟩
  · unfold Arr at *
    simp only [World.setCell, Array.getElem?_modify, if_true, h, Option.map_some]
    congr 2
    simp [List.map_set]
  · simp only [World.setCell]
    have hne' : r ≠ i := fun e => hne (by rw [e])
    simp [Array.getElem?_modify, hne']

theorem grown_tr {w w1 w2 : World} {row : Option Nat} (h : w.grownBy w1 row) (k : w1.grownBy w2 row) : w.grownBy w2 row :=
  ⟨k.os.trans h.os, k.tape.trans h.tape, k.output.trans h.output, Nat.le_trans h.size k.size, fun i hi hne => (k.block i (Nat.lt_of_lt_of_le hi h.size) hne).trans (h.block i hi hne)⟩
theorem Arr.all {w : World} {r : Nat} {z0 z1 z2 z3 z4 z5 z6 z7 z8 z9 z10 z11 z12 z13 z14 z15 x0 x1 x2 x3 x4 x5 x6 x7 x8 x9 x10 x11 x12 x13 x14 x15 : Int} (h : Arr w r [z0, z1, z2, z3, z4, z5, z6, z7, z8, z9, z10, z11, z12, z13, z14, z15]) :
    Arr ((((((((((((((((w.setCell ⟨r, 0, none⟩ (.int .i64 x0)).setCell ⟨r, 1, none⟩ (.int .i64 x1)).setCell ⟨r, 2, none⟩ (.int .i64 x2)).setCell ⟨r, 3, none⟩ (.int .i64 x3)).setCell ⟨r, 4, none⟩ (.int .i64 x4)).setCell ⟨r, 5, none⟩ (.int .i64 x5)).setCell ⟨r, 6, none⟩ (.int .i64 x6)).setCell ⟨r, 7, none⟩ (.int .i64 x7)).setCell ⟨r, 8, none⟩ (.int .i64 x8)).setCell ⟨r, 9, none⟩ (.int .i64 x9)).setCell ⟨r, 10, none⟩ (.int .i64 x10)).setCell ⟨r, 11, none⟩ (.int .i64 x11)).setCell ⟨r, 12, none⟩ (.int .i64 x12)).setCell ⟨r, 13, none⟩ (.int .i64 x13)).setCell ⟨r, 14, none⟩ (.int .i64 x14)).setCell ⟨r, 15, none⟩ (.int .i64 x15)) r [x0, x1, x2, x3, x4, x5, x6, x7, x8, x9, x10, x11, x12, x13, x14, x15] ∧ w.grownBy ((((((((((((((((w.setCell ⟨r, 0, none⟩ (.int .i64 x0)).setCell ⟨r, 1, none⟩ (.int .i64 x1)).setCell ⟨r, 2, none⟩ (.int .i64 x2)).setCell ⟨r, 3, none⟩ (.int .i64 x3)).setCell ⟨r, 4, none⟩ (.int .i64 x4)).setCell ⟨r, 5, none⟩ (.int .i64 x5)).setCell ⟨r, 6, none⟩ (.int .i64 x6)).setCell ⟨r, 7, none⟩ (.int .i64 x7)).setCell ⟨r, 8, none⟩ (.int .i64 x8)).setCell ⟨r, 9, none⟩ (.int .i64 x9)).setCell ⟨r, 10, none⟩ (.int .i64 x10)).setCell ⟨r, 11, none⟩ (.int .i64 x11)).setCell ⟨r, 12, none⟩ (.int .i64 x12)).setCell ⟨r, 13, none⟩ (.int .i64 x13)).setCell ⟨r, 14, none⟩ (.int .i64 x14)).setCell ⟨r, 15, none⟩ (.int .i64 x15)) (some r) := by
  obtain ⟨s0, b0⟩ := Arr.set h 0 x0
  obtain ⟨s1, b1⟩ := Arr.set s0 1 x1
  obtain ⟨s2, b2⟩ := Arr.set s1 2 x2
  obtain ⟨s3, b3⟩ := Arr.set s2 3 x3
  obtain ⟨s4, b4⟩ := Arr.set s3 4 x4
  obtain ⟨s5, b5⟩ := Arr.set s4 5 x5
  obtain ⟨s6, b6⟩ := Arr.set s5 6 x6
  obtain ⟨s7, b7⟩ := Arr.set s6 7 x7
  obtain ⟨s8, b8⟩ := Arr.set s7 8 x8
  obtain ⟨s9, b9⟩ := Arr.set s8 9 x9
  obtain ⟨s10, b10⟩ := Arr.set s9 10 x10
  obtain ⟨s11, b11⟩ := Arr.set s10 11 x11
  obtain ⟨s12, b12⟩ := Arr.set s11 12 x12
  obtain ⟨s13, b13⟩ := Arr.set s12 13 x13
  obtain ⟨s14, b14⟩ := Arr.set s13 14 x14
  obtain ⟨s15, b15⟩ := Arr.set s14 15 x15
  exact ⟨s15, (grown_tr (grown_tr (grown_tr (grown_tr (grown_tr (grown_tr (grown_tr (grown_tr (grown_tr (grown_tr (grown_tr (grown_tr (grown_tr (grown_tr (grown_tr b0 b1) b2) b3) b4) b5) b6) b7) b8) b9) b10) b11) b12) b13) b14) b15)⟩

set_option maxRecDepth 100000 in
set_option maxHeartbeats 2000000 in
theorem c_ends (A : Option Addr) (n c : Nat) (ms : List Md) (w : World) (h : SlR w 5 RMd A n c ms) (hg : Good ms) :
    Calls Try.prog 56 #[.slice A n c] w fun e w' => e = .returned (.agg ((endsL ms).map (Value.int .i64)).toArray) ∧ Below w.heap.size w w' := by
  have hlim := h.lim
  have H := Box.mk h
  have HG := Box.mk hg
  clear h hg
  go_enter Try.func56, Try.ntmps56
  go_wp2_with fail
  have A0 : Box (Arr ((w.alloc (.cells (Array.replicate 16 (.int .i64 0)) 77)).alloc (.cells (Array.replicate 16 (.int .i64 0)) 77)) w.heap.size (List.replicate 16 0)) := ⟨by
    unfold Arr
    rw [Below.heap_alloc _ _ _ (by simp), heap_alloc_new]
    rfl⟩
  have A1 : Box (Arr ((w.alloc (.cells (Array.replicate 16 (.int .i64 0)) 77)).alloc (.cells (Array.replicate 16 (.int .i64 0)) 77)) (w.heap.size + 1) (endsL (ms.take 0))) := ⟨by
    unfold Arr
    have e : w.heap.size + 1 = (w.alloc (.cells (Array.replicate 16 (.int .i64 0)) 77)).heap.size := by simp
    rw [e, heap_alloc_new]
    rfl⟩
  go_loopw [5, 8] (fun _ i wr => ∃ k : Nat, k ≤ n ∧ i = .int .i64 k ∧ Box (Below w.heap.size w wr) ∧ Box (Arr wr w.heap.size (List.replicate 16 0)) ∧ Box (Arr wr (w.heap.size + 1) (endsL (ms.take k)))) (fun _ i _ => n - (intOf i).toNat)
  case atStart =>
    refine ⟨0, Nat.zero_le _, rfl, ⟨bel_alloc2 (bel_alloc _ _) _⟩, A0, A1⟩
  case round =>
    obtain ⟨k, hk, rfl, HB, HZ, HA⟩ := hrel
    clear A0 A1
    by_cases hlt : k < n
    · obtain ⟨b, off, m, A1, n1, c1, A2, n2, c2, A3, n3, c3, rfl, hb, hm, hM, h0, h1, h2, h3, h4⟩ := H.out.md_at k hlt
      replace h0 := cellk HB.out hb h0
      replace h1 := cellk HB.out hb h1
      replace h2 := cellk HB.out hb h2
      replace h3 := cellk HB.out hb h3
      replace h4 := cellk HB.out hb h4
      obtain ⟨g1, g2, g3, g4⟩ := HG.out.md (List.mem_iff_getElem?.2 ⟨k, hm⟩)
      have g5 := HG.out.szsum (List.mem_iff_getElem?.2 ⟨k, hm⟩)
      obtain ⟨j, hj⟩ : ∃ j : Nat, m.ov = j := ⟨m.ov.toNat, by omega⟩
      have hj16 : j < 16 := by omega
      have hb1 := HG.out.endAt_bound k j
      have hxj : (endsL (ms.take k))[j]? = some (endAt (ms.take k) j) := by simp [endsL, hj16]
      have HT : Box (endsL (ms.take (k + 1)) = (endsL (ms.take k)).set j (endAt (ms.take k) j + m.sz.sum)) := ⟨endsL_take hm hj hj16⟩
      have HM := Box.mk hM
      have HSUM : Box (∀ x ∈ m.sz, 0 ≤ x ∧ x ≤ 10000) := ⟨fun x hx => by have := g3 x hx; omega⟩
      have HN2 : Box (n2 ≤ 1000000) := ⟨by rw [← hM.sz.len]; omega⟩
      have HJ := Box.mk hj
      have HXJ := Box.mk hxj
      rw [hj] at h1
      clear hM hm g1 g2 g3 g4 hj hxj
      have hRl := HA.out.lt
      generalize hS : m.sz.sum = S at *
      have HS := Box.mk hS
      clear hS
      generalize hE : endAt (ms.take k) j = E at *
      clear hE
      go_upto_region 5 with fail
      have CS : Box (∀ W, Below w.heap.size w W → Calls Try.prog 98 #[.slice A2 n2 c2] W fun e w' => e = .returned (.int .i64 S) ∧ W = w') := ⟨fun W hW => by
        have := c_sum A2 n2 c2 m.sz W (HM.out.sz.below mono_int hW) HN2.out HSUM.out
        rwa [HS.out] at this⟩
      have HBW : Box (Below w.heap.size w (wr.alloc (.cells #[.string m.nm, .int .i64 j, .slice A1 n1 c1, .slice A2 n2 c2, .slice A3 n3 c3] 33))) := ⟨bel_alloc2 HB.out _⟩
      have HZW : Box (Arr (wr.alloc (.cells #[.string m.nm, .int .i64 j, .slice A1 n1 c1, .slice A2 n2 c2, .slice A3 n3 c3] 33)) w.heap.size (List.replicate 16 0)) := ⟨(Below.heap_alloc _ _ _ HZ.out.lt).trans HZ.out⟩
      have HAW : Box (Arr (wr.alloc (.cells #[.string m.nm, .int .i64 j, .slice A1 n1 c1, .slice A2 n2 c2, .slice A3 n3 c3] 33)) (w.heap.size + 1) (endsL (ms.take k))) := ⟨(Below.heap_alloc _ _ _ HA.out.lt).trans HA.out⟩
      have d1 : (wr.alloc (.cells #[.string m.nm, .int .i64 j, .slice A1 n1 c1, .slice A2 n2 c2, .slice A3 n3 c3] 33)).cell? ⟨wr.heap.size, 1, none⟩ = some (.int .i64 j) := by simp
      have d3 : (wr.alloc (.cells #[.string m.nm, .int .i64 j, .slice A1 n1 c1, .slice A2 n2 c2, .slice A3 n3 c3] 33)).cell? ⟨wr.heap.size, 3, none⟩ = some (.slice A2 n2 c2) := by simp
      generalize (wr.alloc (.cells #[.string m.nm, .int .i64 j, .slice A1 n1 c1, .slice A2 n2 c2, .slice A3 n3 c3] 33)) = W at *
      have dj := HAW.out.cell HXJ.out
      have fj := HAW.out.frozen j
      have hwr : IntKind.i64.wrap (E + S) = E + S := wrap_i64 (by omega) (by omega)
      go_region_with (refine (CS.out _ ?_).mono ?_; exact ⟨HBW.out.os, HBW.out.tape, HBW.out.output, HBW.out.size, HBW.out.block⟩; rintro e w' ⟨rfl, rfl⟩)
      all_goals
        obtain ⟨hs1, hs2⟩ := HAW.out.set j (E + S)
        have HS1 : Box (Arr (W.setCell ⟨w.heap.size + 1, j, none⟩ (.int .i64 (E + S))).drew (w.heap.size + 1) (endsL (ms.take (k + 1)))) := ⟨by rw [HT.out]; exact hs1⟩
        have HB1 : Box (Below w.heap.size w (W.setCell ⟨w.heap.size + 1, j, none⟩ (.int .i64 (E + S))).drew) := ⟨by
          have := HBW.out.grown hs2 HBW.out.size (fun q hq => by injection hq with hq; omega)
          exact ⟨this.os, this.tape, this.output, this.size, this.block⟩⟩
        have HZ1 : Box (Arr (W.setCell ⟨w.heap.size + 1, j, none⟩ (.int .i64 (E + S))).drew w.heap.size (List.replicate 16 0)) := ⟨(hs2.block _ HZW.out.lt (by intro e; injection e with e; omega)).trans HZW.out⟩
        clear hs1 hs2 dj fj d1 d3
        generalize (W.setCell ⟨w.heap.size + 1, j, none⟩ (.int .i64 (E + S))).drew = W5 at *
        go_wp2_with fail
        go_roundw
        case rel => exact ⟨k + 1, by omega, by go_num, HB1, HZ1, HS1⟩
        case measure => simp [intOf]; omega
    · obtain rfl : k = n := by omega
      rw [List.take_of_length_le (by rw [H.out.len]; exact Nat.le_refl _)] at HA
      have hAA := HA.out
      have hZZ := HZ.out
      generalize hq : endsL ms = Q at *
      have hl : Q.length = 16 := by rw [← hq, endsL_length]
      have HQ := Box.mk hq
      clear hq
      match Q, hl, HQ with
      | [x0, x1, x2, x3, x4, x5, x6, x7, x8, x9, x10, x11, x12, x13, x14, x15], _, HQ =>
        have a0 := hAA.cell (j := 0) rfl
        have z0 := hZZ.cell (j := 0) rfl
        have f0 := hZZ.frozen 0
        have a1 := hAA.cell (j := 1) rfl
        have z1 := hZZ.cell (j := 1) rfl
        have f1 := hZZ.frozen 1
        have a2 := hAA.cell (j := 2) rfl
        have z2 := hZZ.cell (j := 2) rfl
        have f2 := hZZ.frozen 2
        have a3 := hAA.cell (j := 3) rfl
        have z3 := hZZ.cell (j := 3) rfl
        have f3 := hZZ.frozen 3
        have a4 := hAA.cell (j := 4) rfl
        have z4 := hZZ.cell (j := 4) rfl
        have f4 := hZZ.frozen 4
        have a5 := hAA.cell (j := 5) rfl
        have z5 := hZZ.cell (j := 5) rfl
        have f5 := hZZ.frozen 5
        have a6 := hAA.cell (j := 6) rfl
        have z6 := hZZ.cell (j := 6) rfl
        have f6 := hZZ.frozen 6
        have a7 := hAA.cell (j := 7) rfl
        have z7 := hZZ.cell (j := 7) rfl
        have f7 := hZZ.frozen 7
        have a8 := hAA.cell (j := 8) rfl
        have z8 := hZZ.cell (j := 8) rfl
        have f8 := hZZ.frozen 8
        have a9 := hAA.cell (j := 9) rfl
        have z9 := hZZ.cell (j := 9) rfl
        have f9 := hZZ.frozen 9
        have a10 := hAA.cell (j := 10) rfl
        have z10 := hZZ.cell (j := 10) rfl
        have f10 := hZZ.frozen 10
        have a11 := hAA.cell (j := 11) rfl
        have z11 := hZZ.cell (j := 11) rfl
        have f11 := hZZ.frozen 11
        have a12 := hAA.cell (j := 12) rfl
        have z12 := hZZ.cell (j := 12) rfl
        have f12 := hZZ.frozen 12
        have a13 := hAA.cell (j := 13) rfl
        have z13 := hZZ.cell (j := 13) rfl
        have f13 := hZZ.frozen 13
        have a14 := hAA.cell (j := 14) rfl
        have z14 := hZZ.cell (j := 14) rfl
        have f14 := hZZ.frozen 14
        have a15 := hAA.cell (j := 15) rfl
        have z15 := hZZ.cell (j := 15) rfl
        have f15 := hZZ.frozen 15
        clear hAA
        have HZB := Box.mk hZZ
        clear hZZ
        go_wp2_with fail
        have HF := Box.mk (Arr.all (x0 := x0) (x1 := x1) (x2 := x2) (x3 := x3) (x4 := x4) (x5 := x5) (x6 := x6) (x7 := x7) (x8 := x8) (x9 := x9) (x10 := x10) (x11 := x11) (x12 := x12) (x13 := x13) (x14 := x14) (x15 := x15) HZB.out)
        have HBF : Box (Below w.heap.size w ((((((((((((((((wr.setCell ⟨w.heap.size, 0, none⟩ (.int .i64 x0)).setCell ⟨w.heap.size, 1, none⟩ (.int .i64 x1)).setCell ⟨w.heap.size, 2, none⟩ (.int .i64 x2)).setCell ⟨w.heap.size, 3, none⟩ (.int .i64 x3)).setCell ⟨w.heap.size, 4, none⟩ (.int .i64 x4)).setCell ⟨w.heap.size, 5, none⟩ (.int .i64 x5)).setCell ⟨w.heap.size, 6, none⟩ (.int .i64 x6)).setCell ⟨w.heap.size, 7, none⟩ (.int .i64 x7)).setCell ⟨w.heap.size, 8, none⟩ (.int .i64 x8)).setCell ⟨w.heap.size, 9, none⟩ (.int .i64 x9)).setCell ⟨w.heap.size, 10, none⟩ (.int .i64 x10)).setCell ⟨w.heap.size, 11, none⟩ (.int .i64 x11)).setCell ⟨w.heap.size, 12, none⟩ (.int .i64 x12)).setCell ⟨w.heap.size, 13, none⟩ (.int .i64 x13)).setCell ⟨w.heap.size, 14, none⟩ (.int .i64 x14)).setCell ⟨w.heap.size, 15, none⟩ (.int .i64 x15))) := ⟨HB.out.grown HF.out.2 HB.out.size (fun q hq => by injection hq with hq; omega)⟩
        clear a0 z0 f0 a1 z1 f1 a2 z2 f2 a3 z3 f3 a4 z4 f4 a5 z5 f5 a6 z6 f6 a7 z7 f7 a8 z8 f8 a9 z9 f9 a10 z10 f10 a11 z11 f11 a12 z12 f12 a13 z13 f13 a14 z14 f14 a15 z15 f15
        generalize ((((((((((((((((wr.setCell ⟨w.heap.size, 0, none⟩ (.int .i64 x0)).setCell ⟨w.heap.size, 1, none⟩ (.int .i64 x1)).setCell ⟨w.heap.size, 2, none⟩ (.int .i64 x2)).setCell ⟨w.heap.size, 3, none⟩ (.int .i64 x3)).setCell ⟨w.heap.size, 4, none⟩ (.int .i64 x4)).setCell ⟨w.heap.size, 5, none⟩ (.int .i64 x5)).setCell ⟨w.heap.size, 6, none⟩ (.int .i64 x6)).setCell ⟨w.heap.size, 7, none⟩ (.int .i64 x7)).setCell ⟨w.heap.size, 8, none⟩ (.int .i64 x8)).setCell ⟨w.heap.size, 9, none⟩ (.int .i64 x9)).setCell ⟨w.heap.size, 10, none⟩ (.int .i64 x10)).setCell ⟨w.heap.size, 11, none⟩ (.int .i64 x11)).setCell ⟨w.heap.size, 12, none⟩ (.int .i64 x12)).setCell ⟨w.heap.size, 13, none⟩ (.int .i64 x13)).setCell ⟨w.heap.size, 14, none⟩ (.int .i64 x14)).setCell ⟨w.heap.size, 15, none⟩ (.int .i64 x15)) = W9 at *
        have c0 := HF.out.1.cell (j := 0) rfl
        have c1 := HF.out.1.cell (j := 1) rfl
        have c2 := HF.out.1.cell (j := 2) rfl
        have c3 := HF.out.1.cell (j := 3) rfl
        have c4 := HF.out.1.cell (j := 4) rfl
        have c5 := HF.out.1.cell (j := 5) rfl
        have c6 := HF.out.1.cell (j := 6) rfl
        have c7 := HF.out.1.cell (j := 7) rfl
        have c8 := HF.out.1.cell (j := 8) rfl
        have c9 := HF.out.1.cell (j := 9) rfl
        have c10 := HF.out.1.cell (j := 10) rfl
        have c11 := HF.out.1.cell (j := 11) rfl
        have c12 := HF.out.1.cell (j := 12) rfl
        have c13 := HF.out.1.cell (j := 13) rfl
        have c14 := HF.out.1.cell (j := 14) rfl
        have c15 := HF.out.1.cell (j := 15) rfl
        refine bodyPost_ret (v := .agg #[.int .i64 x0, .int .i64 x1, .int .i64 x2, .int .i64 x3, .int .i64 x4, .int .i64 x5, .int .i64 x6, .int .i64 x7, .int .i64 x8, .int .i64 x9, .int .i64 x10, .int .i64 x11, .int .i64 x12, .int .i64 x13, .int .i64 x14, .int .i64 x15]) (by simp [results, Try.results56, go_sem, *]) rfl ⟨by rw [HQ.out]; rfl, HBF.out⟩
end Go.Proofs.Ytchhjldopecliaa
namespace Go.Proofs.Ytchhjldopecliaa
open Go.RowKit

/-- What Sizes tells: the root's size, the room's, the error. -/
def szs (ms : List Md) : Int × Int × Int := if vld ms ≠ 0 then (0, 0, vld ms) else (endAt ms 0, mxL (endsL ms).tail, 0)

theorem Arr.tail_sl {w : World} {r : Nat} {l : List Int} (h : Arr w r l) (hl : l.length = 16) : SlR w 1 RInt (some ⟨r, 1, none⟩) 15 15 l.tail := by
  refine ⟨by simp [hl], Nat.le_refl _, by decide, fun _ => ⟨r, 1, rfl, h.lt, fun i x hx => ⟨[.int .i64 x], rfl, rfl, fun j u hu => ?_⟩⟩⟩
  match j, hu with
  | 0, hu =>
    have hu : Value.int .i64 x = u := by simpa using hu
    subst hu
    have : l[i + 1]? = some x := by rw [← List.getElem?_tail]; exact hx
    have := h.cell this
    rw [Nat.mul_one, Nat.add_zero, Nat.add_comm]
    exact this
  | j + 1, hu => simp at hu
theorem ret3 {a b c a' b' c' : Int} (h1 : a = a') (h2 : b = b') (h3 : c = c') : Ending.returned (.tuple #[.int .i64 a, .int .i64 b, .int .i64 c]) = .returned (.tuple #[.int .i64 a', .int .i64 b', .int .i64 c']) := by rw [h1, h2, h3]

set_option maxRecDepth 100000 in
set_option maxHeartbeats 2000000 in
theorem c_Sizes (A : Option Addr) (n c : Nat) (ms : List Md) (w : World) (h : SlR w 5 RMd A n c ms) :
    Calls Try.prog 22 #[.slice A n c] w fun e w' => e = .returned (.tuple #[.int .i64 (szs ms).1, .int .i64 (szs ms).2.1, .int .i64 (szs ms).2.2]) ∧ Below w.heap.size w w' := by
  have hlim := h.lim
  have H := Box.mk h
  clear h
  go_enter Try.func22, Try.ntmps22
  go_wp2_with fail
  refine (c_Validate A n c ms w H.out).mono ?_
  rintro e w1 ⟨rfl, hb1⟩
  have HB1 := Box.mk hb1
  clear hb1
  generalize hv : vld ms = V
  by_cases h0 : V = 0
  · subst h0
    have HG := Box.mk (vld_good hv)
    have HV : Box (szs ms = (endAt ms 0, mxL (endsL ms).tail, 0)) := ⟨by simp [szs, hv]⟩
    have C := Box.mk (c_ends A n c ms w1 (H.out.below mono_md HB1.out) HG.out)
    have hE : (endsL ms)[0]? = some (endAt ms 0) := by simp [endsL]
    have HE := Box.mk hE
    clear hv hE
    have hl := endsL_length ms
    generalize hq : endsL ms = Q at *
    clear hq
    match Q, hl, C, HV, HE with
    | [x0, x1, x2, x3, x4, x5, x6, x7, x8, x9, x10, x11, x12, x13, x14, x15], _, C, HV, HE =>
      go_wp2_with fail
      refine C.out.mono ?_
      rintro e w2 ⟨rfl, hb2⟩
      have HB2 := Box.mk (below_tr HB1.out HB1.out.size hb2)
      clear hb2
      have HA : Box (Arr (w2.alloc (.cells #[.int .i64 x0, .int .i64 x1, .int .i64 x2, .int .i64 x3, .int .i64 x4, .int .i64 x5, .int .i64 x6, .int .i64 x7, .int .i64 x8, .int .i64 x9, .int .i64 x10, .int .i64 x11, .int .i64 x12, .int .i64 x13, .int .i64 x14, .int .i64 x15] 77)) w2.heap.size [x0, x1, x2, x3, x4, x5, x6, x7, x8, x9, x10, x11, x12, x13, x14, x15]) := ⟨heap_alloc_new w2 _⟩
      have HB3 : Box (Below w.heap.size w (w2.alloc (.cells #[.int .i64 x0, .int .i64 x1, .int .i64 x2, .int .i64 x3, .int .i64 x4, .int .i64 x5, .int .i64 x6, .int .i64 x7, .int .i64 x8, .int .i64 x9, .int .i64 x10, .int .i64 x11, .int .i64 x12, .int .i64 x13, .int .i64 x14, .int .i64 x15] 77))) := ⟨bel_alloc2 HB2.out _⟩
      simp only [List.map_cons, List.map_nil]
      go_upto_region 5 with fail
      generalize (w2.alloc (.cells #[.int .i64 x0, .int .i64 x1, .int .i64 x2, .int .i64 x3, .int .i64 x4, .int .i64 x5, .int .i64 x6, .int .i64 x7, .int .i64 x8, .int .i64 x9, .int .i64 x10, .int .i64 x11, .int .i64 x12, .int .i64 x13, .int .i64 x14, .int .i64 x15] 77)) = W at *
      have d0 := HA.out.cell (j := 0) rfl
      have CM : Box (∀ W' : World, W'.heap = W.heap → Calls Try.prog 57 #[.slice (some ⟨w2.heap.size, 1, none⟩) 15 15] W' fun e w' => e = .returned (.int .i64 (mxL [x1, x2, x3, x4, x5, x6, x7, x8, x9, x10, x11, x12, x13, x14, x15])) ∧ W' = w') := ⟨fun W' hW => c_Max _ 15 15 _ W' (Arr.tail_sl (l := [x0, x1, x2, x3, x4, x5, x6, x7, x8, x9, x10, x11, x12, x13, x14, x15]) ((congrArg (·[w2.heap.size]?) hW).trans HA.out) rfl) (by decide)⟩
      go_region_with (refine (CM.out _ ?_).mono ?_; rfl; rintro e w' ⟨rfl, rfl⟩)
      all_goals
        clear CM C
        go_wp2_with fail
        go_ret3
        exact ⟨ret3 (by rw [HV.out]; have := HE.out; simpa using this) (by rw [HV.out]; rfl) (by rw [HV.out]), ⟨HB3.out.os, HB3.out.tape, HB3.out.output, HB3.out.size, HB3.out.block⟩⟩
  · have HO : Box (szs ms = (0, 0, V)) := ⟨by simp [szs, hv, h0]⟩
    have h0' : ¬ ((V : Int) == 0) = true := by simpa using h0
    clear hv
    go_wp2_with fail
    go_ret3
    exact ⟨ret3 (by rw [HO.out]) (by rw [HO.out]) (by rw [HO.out]), HB1.out⟩
end Go.Proofs.Ytchhjldopecliaa
namespace Go.Proofs.Ytchhjldopecliaa
open Go.RowKit

def hvyT (xs : List Str) : Int := xs.foldl (fun z x => wrap64 (z + x.size)) xs.length
def hvyK (n : Nat) (xs : List Str) : Int := xs.foldl (fun z x => wrap64 (z + x.size)) n
set_option maxRecDepth 100000 in
set_option maxHeartbeats 1000000 in
theorem c_heavyTexts (A : Option Addr) (n c : Nat) (xs : List Str) (w : World) (h : SlR w 1 RStr A n c xs) :
    Calls Try.prog 15 #[.slice A n c] w fun e w' => e = .returned (.int .i64 (hvyK n xs)) ∧ w = w' := by
  have hlim := h.lim
  have H := Box.mk h
  clear h
  go_enter Try.func15, Try.ntmps15
  go_wp2_with fail
  go_loop [3, 4] (fun t i => ∃ k : Nat, k ≤ n ∧ i = .int .i64 k ∧ t = .int .i64 (hvyK n (xs.take k))) (fun _ i => n - (intOf i).toNat)
  case atStart => exact ⟨0, Nat.zero_le _, rfl, rfl⟩
  case round =>
    obtain ⟨k, hk, rfl, rfl⟩ := hrel
    by_cases hlt : k < n
    · obtain ⟨b, off, x, rfl, hb, hx, hs, hc⟩ := H.out.str_at k hlt
      rw [LIM_eq] at hs
      have HE : Box (hvyK n (xs.take (k + 1)) = wrap64 (hvyK n (xs.take k) + x.size)) := ⟨by unfold hvyK; rw [List.take_add_one, hx, List.foldl_append]; rfl⟩
      clear hx
      generalize hvyK n (xs.take k) = z at HE
      go_wp2_with fail
      go_round
      case rel => exact ⟨k + 1, by omega, by go_num, vi (by rw [HE.out])⟩
      case measure => simp [intOf]; omega
    · go_wp2_with fail
      go_ret
      obtain rfl : k = n := by omega
      exact ⟨ret_int (by rw [List.take_of_length_le (by rw [H.out.len]; exact Nat.le_refl _)]), rfl⟩

def OverSays (n : Nat) (e : Ending) : Prop := ∃ q, e = .returned (.bool q) ∧ (q = false → n < 65536)

set_option maxRecDepth 100000 in
set_option maxHeartbeats 4000000 in
theorem c_over (A : Option Addr) (n c : Nat) (ms : List Md) (w : World) (h : SlR w 5 RMd A n c ms) :
    Calls Try.prog 14 #[.slice A n c] w fun e w' => OverSays n e ∧ Below w.heap.size w w' := by
  have hlim := h.lim
  have H := Box.mk h
  clear h
  by_cases hbig : 65536 ≤ n
  · have hpos : 0 < n := by omega
    have hnb : decide ((n : Int) < 65536) = false := by simp; omega
    have hnb2 : decide ((n : Int) ≥ 65536) = true := by simp; omega
    have HBIG := Box.mk hbig
    clear hbig
    go_enter Try.func14, Try.ntmps14
    go_wp2_with fail
    go_loop [3, 4] (fun t i => i = .int .i64 0 ∧ t = .int .i64 n) (fun _ i => 0)
    case atStart => exact ⟨rfl, rfl⟩
    case round =>
      obtain ⟨rfl, rfl⟩ := hrel
      go_wp2_with fail
      go_ret
      exact ⟨⟨_, rfl, fun h => by simp at h⟩, Below.refl _ _⟩
  · go_enter Try.func14, Try.ntmps14
    go_wp2_with fail
    go_loopw [3, 4, 5] (fun t i _ wr => ∃ k : Nat, k ≤ n ∧ i = .int .i64 k ∧ (∃ z, t = .int .i64 z) ∧ Box (Below w.heap.size w wr)) (fun _ i _ _ => n - (intOf i).toNat)
    case atStart => exact ⟨0, Nat.zero_le _, rfl, ⟨_, rfl⟩, ⟨Below.refl _ _⟩⟩
    case round =>
      obtain ⟨k, hk, rfl, ⟨z, rfl⟩, HB⟩ := hrel
      by_cases hlt : k < n
      · by_cases hz : z < 65536
        · obtain ⟨b, off, m, A1, n1, c1, A2, n2, c2, A3, n3, c3, rfl, hb, hm, hM, h0, h1, h2, h3, h4⟩ := H.out.md_at k hlt
          replace h0 := cellk HB.out hb h0
          replace h1 := cellk HB.out hb h1
          replace h2 := cellk HB.out hb h2
          replace h3 := cellk HB.out hb h3
          replace h4 := cellk HB.out hb h4
          have HM := Box.mk hM
          have hn1 := hM.pr.lim
          have hn2 := hM.sz.lim
          have hn3 := hM.cl.lim
          have hnm := hM.nm
          rw [LIM_eq] at hnm
          have CH : Box (∀ W, Below w.heap.size w W → Calls Try.prog 15 #[.slice A1 n1 c1] W fun e w' => e = .returned (.int .i64 (hvyK n1 m.pr)) ∧ W = w') := ⟨fun W hW => c_heavyTexts A1 n1 c1 m.pr W (hM.pr.below mono_str hW)⟩
          clear hM hm
          generalize hvyK n1 m.pr = hv at CH
          go_upto_region 5 with fail
          have CQ : Box (∀ q, Calls Try.prog 15 #[.slice A1 n1 c1] (wr.drewN q) fun e w' => e = .returned (.int .i64 hv) ∧ w' = wr.drewN q) := ⟨fun q => (CH.out (wr.drewN q) ⟨HB.out.os, HB.out.tape, HB.out.output, HB.out.size, HB.out.block⟩).mono (fun e w' h => ⟨h.1, h.2.symm⟩)⟩
          go_quiet (exact Calls.quiet_of_same (CQ.out _))
          generalize (wrap64 (z + wrap64 (wrap64 (wrap64 (↑(ByteArray.size m.nm) + hv) + ↑n2) + ↑n3))) = z2
          have HBq : Box (Below w.heap.size w (wr.drewN nq)) := ⟨⟨HB.out.os, HB.out.tape, HB.out.output, HB.out.size, HB.out.block⟩⟩
          clear CQ CH
          go_wp2_with fail
          go_loop [3, 5] (fun t i => ∃ j : Nat, j ≤ n3 ∧ i = .int .i64 j ∧ ∃ z, t = .int .i64 z) (fun _ i => n3 - (intOf i).toNat)
          case atStart => exact ⟨0, Nat.zero_le _, rfl, _, rfl⟩
          case round =>
            obtain ⟨j, hj, rfl, z3, rfl⟩ := hrel
            by_cases hjl : j < n3
            · obtain ⟨b6, o6, l, A6, n6, c6, rfl, hb6, hx6, hc6, hl6⟩ := HM.out.cl.sl_at j hjl
              have hc6' : (wr.drewN nq).cell? ⟨b6, o6 + j, none⟩ = some (.slice A6 n6 c6) := cellk HBq.out hb6 hc6
              have HL := Box.mk hl6
              clear hx6 hl6 hc6
              generalize hvz : hvyK n6 l = hz6 at *
              go_wp2_with fail
              refine (c_heavyTexts A6 n6 c6 l _ (HL.out.below mono_str HBq.out)).mono ?_
              rintro e w2 ⟨rfl, rfl⟩
              go_wp2_with fail
              exact ⟨⟨j + 1, by omega, by go_num, _, rfl⟩, by simp [intOf]; omega⟩
            · go_wp2_with fail
              go_roundw
              case rel => exact ⟨k + 1, by omega, by go_num, ⟨_, rfl⟩, HBq⟩
              case measure => simp [intOf]; omega
        · go_wp2_with fail
          go_ret
          exact ⟨⟨_, rfl, fun _ => by omega⟩, HB.out⟩
      · go_wp2_with fail
        go_ret
        exact ⟨⟨_, rfl, fun _ => by omega⟩, HB.out⟩
end Go.Proofs.Ytchhjldopecliaa
namespace Go.Proofs.Ytchhjldopecliaa
open Go.RowKit

/-! ### the document's example -/
def sA : Str := ⟨#[65]⟩
def sB : Str := ⟨#[66]⟩
def sM : Str := ⟨#[77]⟩
def sN : Str := ⟨#[78]⟩
def exMs : List Md := [⟨sM, 1, [sA], [10], [[sB]]⟩, ⟨sN, 2, [sB], [20], [[]]⟩]

theorem exMs_vld : vld exMs = 0 := by decide
theorem exMs_prs : prs exMs = [⟨sA, 1, 10, [sB]⟩, ⟨sB, 2, 20, []⟩] := rfl
theorem exMs_miss : missS (prs exMs) = [] := by
  have : missL (prs exMs) = [] := by decide
  rw [missS, this, setS_nil]
theorem exMs_opn : opn exMs = 0 := by
  unfold opn
  rw [exMs_vld, exMs_miss]
  rfl
theorem exMs_opf : opf exMs sA = 0 := by
  unfold opf
  rw [exMs_opn]
  decide
theorem exMs_lds : lds exMs sA [sB, ByteArray.empty] = (3, 0) := by
  unfold lds
  rw [exMs_opf]
  decide
theorem exMs_szs : szs exMs = (0, 20, 0) := by
  unfold szs
  rw [exMs_vld]
  decide

theorem slr_one {α : Type} {w : World} {R : World → α → List Value → Prop} {b : Nat} {x : α} {v : Value} (hb : b < w.heap.size) (h : R w x [v]) (hc : w.cell? ⟨b, 0, none⟩ = some v) : SlR w 1 R (some ⟨b, 0, none⟩) 1 1 [x] := by
  refine ⟨rfl, Nat.le_refl _, by decide, fun _ => ⟨b, 0, rfl, hb, fun i y hy => ?_⟩⟩
  match i, hy with
  | 0, hy =>
    obtain rfl : x = y := by simpa using hy
    refine ⟨[v], rfl, h, fun j u hu => ?_⟩
    match j, hu with
    | 0, hu => simp at hu; subst hu; simpa using hc
    | j + 1, hu => simp at hu
  | i + 1, hy => simp at hy
theorem slr_nil {α : Type} (w : World) (sz : Nat) (R : World → α → List Value → Prop) (A : Option Addr) (c : Nat) : SlR w sz R A 0 c [] := ⟨rfl, Nat.zero_le _, by decide, fun h => absurd h (Nat.lt_irrefl 0)⟩

theorem cell_new (w : World) (cs : Array Value) (t : TypeId) {p j : Nat} {v : Value} (hp : p = w.heap.size) (h : cs[j]? = some v) : (w.alloc (.cells cs t)).cell? ⟨p, j, none⟩ = some v := by
  subst hp
  have e := heap_alloc_new w (.cells cs t)
  simp only [World.cell?, e]
  simpa using h
theorem cell_al {w : World} (o : Obj) {p j : Nat} {v : Value} (h : w.cell? ⟨p, j, none⟩ = some v) : (w.alloc o).cell? ⟨p, j, none⟩ = some v :=
  cellk (bel_alloc w o) (World.block_lt_of_cell? w _ h) h

theorem ex_world (w : World) (p0 p1 p2 p3 p4 p5 p6 p7 : Nat) (h0 : p0 = w.heap.size) (h1 : p1 = p0 + 1) (h2 : p2 = p1 + 1) (h3 : p3 = p2 + 1) (h4 : p4 = p3 + 1) (h5 : p5 = p4 + 1) (h6 : p6 = p5 + 1) (h7 : p7 = p6 + 1) :
    SlR ((((((((w.alloc (.cells #[.string sA] 9)).alloc (.cells #[.int .i64 10] 3)).alloc (.cells #[.string sB] 9)).alloc (.cells #[.slice (some ⟨p2, 0, none⟩) 1 1] 23)).alloc (.cells #[.string sB] 9)).alloc (.cells #[.int .i64 20] 3)).alloc (.cells #[.slice none 0 0] 23)).alloc (.cells #[.string sM, .int .i64 1, .slice (some ⟨p0, 0, none⟩) 1 1, .slice (some ⟨p1, 0, none⟩) 1 1, .slice (some ⟨p3, 0, none⟩) 1 1, .string sN, .int .i64 2, .slice (some ⟨p4, 0, none⟩) 1 1, .slice (some ⟨p5, 0, none⟩) 1 1, .slice (some ⟨p6, 0, none⟩) 1 1] 33)) 5 RMd (some ⟨p7, 0, none⟩) 2 2 exMs ∧ Below w.heap.size w ((((((((w.alloc (.cells #[.string sA] 9)).alloc (.cells #[.int .i64 10] 3)).alloc (.cells #[.string sB] 9)).alloc (.cells #[.slice (some ⟨p2, 0, none⟩) 1 1] 23)).alloc (.cells #[.string sB] 9)).alloc (.cells #[.int .i64 20] 3)).alloc (.cells #[.slice none 0 0] 23)).alloc (.cells #[.string sM, .int .i64 1, .slice (some ⟨p0, 0, none⟩) 1 1, .slice (some ⟨p1, 0, none⟩) 1 1, .slice (some ⟨p3, 0, none⟩) 1 1, .string sN, .int .i64 2, .slice (some ⟨p4, 0, none⟩) 1 1, .slice (some ⟨p5, 0, none⟩) 1 1, .slice (some ⟨p6, 0, none⟩) 1 1] 33)) := by
  obtain ⟨w1, hw1⟩ : ∃ W, W = w.alloc (.cells #[.string sA] 9) := ⟨_, rfl⟩
  obtain ⟨w2, hw2⟩ : ∃ W, W = w1.alloc (.cells #[.int .i64 10] 3) := ⟨_, rfl⟩
  obtain ⟨w3, hw3⟩ : ∃ W, W = w2.alloc (.cells #[.string sB] 9) := ⟨_, rfl⟩
  obtain ⟨w4, hw4⟩ : ∃ W, W = w3.alloc (.cells #[.slice (some ⟨p2, 0, none⟩) 1 1] 23) := ⟨_, rfl⟩
  obtain ⟨w5, hw5⟩ : ∃ W, W = w4.alloc (.cells #[.string sB] 9) := ⟨_, rfl⟩
  obtain ⟨w6, hw6⟩ : ∃ W, W = w5.alloc (.cells #[.int .i64 20] 3) := ⟨_, rfl⟩
  obtain ⟨w7, hw7⟩ : ∃ W, W = w6.alloc (.cells #[.slice none 0 0] 23) := ⟨_, rfl⟩
  obtain ⟨w8, hw8⟩ : ∃ W, W = w7.alloc (.cells #[.string sM, .int .i64 1, .slice (some ⟨p0, 0, none⟩) 1 1, .slice (some ⟨p1, 0, none⟩) 1 1, .slice (some ⟨p3, 0, none⟩) 1 1, .string sN, .int .i64 2, .slice (some ⟨p4, 0, none⟩) 1 1, .slice (some ⟨p5, 0, none⟩) 1 1, .slice (some ⟨p6, 0, none⟩) 1 1] 33) := ⟨_, rfl⟩
  rw [← hw1, ← hw2, ← hw3, ← hw4, ← hw5, ← hw6, ← hw7, ← hw8]
  have s1 : w1.heap.size = w.heap.size + 1 := by rw [hw1]; simp
  have s2 : w2.heap.size = w1.heap.size + 1 := by rw [hw2]; simp
  have s3 : w3.heap.size = w2.heap.size + 1 := by rw [hw3]; simp
  have s4 : w4.heap.size = w3.heap.size + 1 := by rw [hw4]; simp
  have s5 : w5.heap.size = w4.heap.size + 1 := by rw [hw5]; simp
  have s6 : w6.heap.size = w5.heap.size + 1 := by rw [hw6]; simp
  have s7 : w7.heap.size = w6.heap.size + 1 := by rw [hw7]; simp
  have s8 : w8.heap.size = w7.heap.size + 1 := by rw [hw8]; simp
  have e0 : w1.cell? ⟨p0, 0, none⟩ = some (.string sA) := by rw [hw1]; exact cell_new _ _ _ (by omega) rfl
  replace e0 : w2.cell? ⟨p0, 0, none⟩ = some (.string sA) := by rw [hw2]; exact cell_al _ e0
  replace e0 : w3.cell? ⟨p0, 0, none⟩ = some (.string sA) := by rw [hw3]; exact cell_al _ e0
  replace e0 : w4.cell? ⟨p0, 0, none⟩ = some (.string sA) := by rw [hw4]; exact cell_al _ e0
  replace e0 : w5.cell? ⟨p0, 0, none⟩ = some (.string sA) := by rw [hw5]; exact cell_al _ e0
  replace e0 : w6.cell? ⟨p0, 0, none⟩ = some (.string sA) := by rw [hw6]; exact cell_al _ e0
  replace e0 : w7.cell? ⟨p0, 0, none⟩ = some (.string sA) := by rw [hw7]; exact cell_al _ e0
  replace e0 : w8.cell? ⟨p0, 0, none⟩ = some (.string sA) := by rw [hw8]; exact cell_al _ e0
  have e1 : w2.cell? ⟨p1, 0, none⟩ = some (.int .i64 10) := by rw [hw2]; exact cell_new _ _ _ (by omega) rfl
  replace e1 : w3.cell? ⟨p1, 0, none⟩ = some (.int .i64 10) := by rw [hw3]; exact cell_al _ e1
  replace e1 : w4.cell? ⟨p1, 0, none⟩ = some (.int .i64 10) := by rw [hw4]; exact cell_al _ e1
  replace e1 : w5.cell? ⟨p1, 0, none⟩ = some (.int .i64 10) := by rw [hw5]; exact cell_al _ e1
  replace e1 : w6.cell? ⟨p1, 0, none⟩ = some (.int .i64 10) := by rw [hw6]; exact cell_al _ e1
  replace e1 : w7.cell? ⟨p1, 0, none⟩ = some (.int .i64 10) := by rw [hw7]; exact cell_al _ e1
  replace e1 : w8.cell? ⟨p1, 0, none⟩ = some (.int .i64 10) := by rw [hw8]; exact cell_al _ e1
  have e2 : w3.cell? ⟨p2, 0, none⟩ = some (.string sB) := by rw [hw3]; exact cell_new _ _ _ (by omega) rfl
  replace e2 : w4.cell? ⟨p2, 0, none⟩ = some (.string sB) := by rw [hw4]; exact cell_al _ e2
  replace e2 : w5.cell? ⟨p2, 0, none⟩ = some (.string sB) := by rw [hw5]; exact cell_al _ e2
  replace e2 : w6.cell? ⟨p2, 0, none⟩ = some (.string sB) := by rw [hw6]; exact cell_al _ e2
  replace e2 : w7.cell? ⟨p2, 0, none⟩ = some (.string sB) := by rw [hw7]; exact cell_al _ e2
  replace e2 : w8.cell? ⟨p2, 0, none⟩ = some (.string sB) := by rw [hw8]; exact cell_al _ e2
  have e3 : w4.cell? ⟨p3, 0, none⟩ = some (.slice (some ⟨p2, 0, none⟩) 1 1) := by rw [hw4]; exact cell_new _ _ _ (by omega) rfl
  replace e3 : w5.cell? ⟨p3, 0, none⟩ = some (.slice (some ⟨p2, 0, none⟩) 1 1) := by rw [hw5]; exact cell_al _ e3
  replace e3 : w6.cell? ⟨p3, 0, none⟩ = some (.slice (some ⟨p2, 0, none⟩) 1 1) := by rw [hw6]; exact cell_al _ e3
  replace e3 : w7.cell? ⟨p3, 0, none⟩ = some (.slice (some ⟨p2, 0, none⟩) 1 1) := by rw [hw7]; exact cell_al _ e3
  replace e3 : w8.cell? ⟨p3, 0, none⟩ = some (.slice (some ⟨p2, 0, none⟩) 1 1) := by rw [hw8]; exact cell_al _ e3
  have e4 : w5.cell? ⟨p4, 0, none⟩ = some (.string sB) := by rw [hw5]; exact cell_new _ _ _ (by omega) rfl
  replace e4 : w6.cell? ⟨p4, 0, none⟩ = some (.string sB) := by rw [hw6]; exact cell_al _ e4
  replace e4 : w7.cell? ⟨p4, 0, none⟩ = some (.string sB) := by rw [hw7]; exact cell_al _ e4
  replace e4 : w8.cell? ⟨p4, 0, none⟩ = some (.string sB) := by rw [hw8]; exact cell_al _ e4
  have e5 : w6.cell? ⟨p5, 0, none⟩ = some (.int .i64 20) := by rw [hw6]; exact cell_new _ _ _ (by omega) rfl
  replace e5 : w7.cell? ⟨p5, 0, none⟩ = some (.int .i64 20) := by rw [hw7]; exact cell_al _ e5
  replace e5 : w8.cell? ⟨p5, 0, none⟩ = some (.int .i64 20) := by rw [hw8]; exact cell_al _ e5
  have e6 : w7.cell? ⟨p6, 0, none⟩ = some (.slice none 0 0) := by rw [hw7]; exact cell_new _ _ _ (by omega) rfl
  replace e6 : w8.cell? ⟨p6, 0, none⟩ = some (.slice none 0 0) := by rw [hw8]; exact cell_al _ e6
  have k0 : w8.cell? ⟨p7, 0, none⟩ = some (.string sM) := by rw [hw8]; exact cell_new _ _ _ (by omega) rfl
  have k1 : w8.cell? ⟨p7, 1, none⟩ = some (.int .i64 1) := by rw [hw8]; exact cell_new _ _ _ (by omega) rfl
  have k2 : w8.cell? ⟨p7, 2, none⟩ = some (.slice (some ⟨p0, 0, none⟩) 1 1) := by rw [hw8]; exact cell_new _ _ _ (by omega) rfl
  have k3 : w8.cell? ⟨p7, 3, none⟩ = some (.slice (some ⟨p1, 0, none⟩) 1 1) := by rw [hw8]; exact cell_new _ _ _ (by omega) rfl
  have k4 : w8.cell? ⟨p7, 4, none⟩ = some (.slice (some ⟨p3, 0, none⟩) 1 1) := by rw [hw8]; exact cell_new _ _ _ (by omega) rfl
  have k5 : w8.cell? ⟨p7, 5, none⟩ = some (.string sN) := by rw [hw8]; exact cell_new _ _ _ (by omega) rfl
  have k6 : w8.cell? ⟨p7, 6, none⟩ = some (.int .i64 2) := by rw [hw8]; exact cell_new _ _ _ (by omega) rfl
  have k7 : w8.cell? ⟨p7, 7, none⟩ = some (.slice (some ⟨p4, 0, none⟩) 1 1) := by rw [hw8]; exact cell_new _ _ _ (by omega) rfl
  have k8 : w8.cell? ⟨p7, 8, none⟩ = some (.slice (some ⟨p5, 0, none⟩) 1 1) := by rw [hw8]; exact cell_new _ _ _ (by omega) rfl
  have k9 : w8.cell? ⟨p7, 9, none⟩ = some (.slice (some ⟨p6, 0, none⟩) 1 1) := by rw [hw8]; exact cell_new _ _ _ (by omega) rfl
  have hb : Below w.heap.size w w8 := by
    rw [hw8, hw7, hw6, hw5, hw4, hw3, hw2, hw1]
    exact bel_alloc2 (bel_alloc2 (bel_alloc2 (bel_alloc2 (bel_alloc2 (bel_alloc2 (bel_alloc2 (bel_alloc w _) _) _) _) _) _) _) _
  clear hw1 hw2 hw3 hw4 hw5 hw6 hw7 hw8
  refine ⟨⟨rfl, Nat.le_refl _, by decide, fun _ => ⟨_, 0, rfl, by omega, fun i m hm => ?_⟩⟩, hb⟩
  match i, hm with
  | 0, hm =>
    obtain rfl : (⟨sM, 1, [sA], [10], [[sB]]⟩ : Md) = m := by simpa [exMs] using hm
    refine ⟨_, rfl, ⟨_, 1, 1, _, 1, 1, _, 1, 1, rfl, by decide, slr_one (by omega) ⟨rfl, by decide⟩ e0, slr_one (by omega) rfl e1, slr_one (by omega) ⟨_, 1, 1, rfl, slr_one (by omega) ⟨rfl, by decide⟩ e2⟩ e3⟩, fun j u hu => ?_⟩
    match j, hu with
    | 0, hu => simp at hu; subst hu; exact k0
    | 1, hu => simp at hu; subst hu; exact k1
    | 2, hu => simp at hu; subst hu; exact k2
    | 3, hu => simp at hu; subst hu; exact k3
    | 4, hu => simp at hu; subst hu; exact k4
    | j + 5, hu => simp at hu
  | 1, hm =>
    obtain rfl : (⟨sN, 2, [sB], [20], [[]]⟩ : Md) = m := by simpa [exMs] using hm
    refine ⟨_, rfl, ⟨_, 1, 1, _, 1, 1, _, 1, 1, rfl, by decide, slr_one (by omega) ⟨rfl, by decide⟩ e4, slr_one (by omega) rfl e5, slr_one (by omega) ⟨_, 0, 0, rfl, slr_nil w8 1 RStr none 0⟩ e6⟩, fun j u hu => ?_⟩
    match j, hu with
    | 0, hu => simp at hu; subst hu; exact k5
    | 1, hu => simp at hu; subst hu; exact k6
    | 2, hu => simp at hu; subst hu; exact k7
    | 3, hu => simp at hu; subst hu; exact k8
    | 4, hu => simp at hu; subst hu; exact k9
    | j + 5, hu => simp at hu
  | i + 2, hm => simp [exMs] at hm

set_option maxRecDepth 100000 in
set_option maxHeartbeats 2000000 in
theorem c_example (w : World) : Calls Try.prog 44 #[] w fun e w' => ∃ A, e = .returned (.slice A 2 2) ∧ SlR w' 5 RMd A 2 2 exMs ∧ Below w.heap.size w w' := by
  go_enter Try.func44, Try.ntmps44
  go_wp2_with fail
  go_ret
  obtain ⟨h1, h2⟩ := ex_world w _ _ _ _ _ _ _ _ rfl rfl rfl rfl rfl rfl rfl rfl
  exact ⟨_, rfl, h1, h2⟩

theorem str_slice2 {w : World} {b : Nat} {x y : Str} (hb : b < w.heap.size) (h0 : w.cell? ⟨b, 0, none⟩ = some (.string x)) (h1 : w.cell? ⟨b, 1, none⟩ = some (.string y)) (hx : x.size ≤ LIM) (hy : y.size ≤ LIM) : SlR w 1 RStr (some ⟨b, 0, none⟩) 2 2 [x, y] := by
  refine ⟨rfl, Nat.le_refl _, by decide, fun _ => ⟨b, 0, rfl, hb, fun i z hz => ?_⟩⟩
  match i, hz with
  | 0, hz =>
    obtain rfl : x = z := by simpa using hz
    refine ⟨[.string x], rfl, ⟨rfl, hx⟩, fun j u hu => ?_⟩
    match j, hu with
    | 0, hu => simp at hu; subst hu; simpa using h0
    | j + 1, hu => simp at hu
  | 1, hz =>
    obtain rfl : y = z := by simpa using hz
    refine ⟨[.string y], rfl, ⟨rfl, hy⟩, fun j u hu => ?_⟩
    match j, hu with
    | 0, hu => simp at hu; subst hu; simpa using h1
    | j + 1, hu => simp at hu
  | i + 2, hz => simp at hz

set_option maxRecDepth 100000 in
set_option maxHeartbeats 2000000 in
theorem c_known (w : World) : Calls Try.prog 16 #[] w fun e w' => e = .returned (.bool true) ∧ Below w.heap.size w w' := by
  go_enter Try.func16, Try.ntmps16
  go_wp2_with fail
  refine (c_example w).mono ?_
  rintro e w1 ⟨A1, rfl, h1, hb1⟩
  have H1 := Box.mk h1
  have HB1 := Box.mk hb1
  clear h1 hb1
  go_wp2_with fail
  have hS : SlR (w1.alloc (.cells #[.string sB, .string ByteArray.empty] 9)) 1 RStr (some ⟨w1.heap.size, 0, none⟩) 2 2 [sB, ByteArray.empty] := str_slice2 (by simp) (by simp) (by simp) (by decide) (by decide)
  refine (c_Loads A1 2 2 exMs sA _ 2 2 [sB, ByteArray.empty] _ (H1.out.below mono_md (bel_alloc _ _)) hS).mono ?_
  rintro e w2 ⟨rfl, hb2⟩
  have HB2 := Box.mk (below_tr (bel_alloc2 HB1.out _) (by have := HB1.out.size; simp; omega) hb2)
  clear hb2 hS
  rw [exMs_lds]
  go_wp2_with fail
  refine (c_example w2).mono ?_
  rintro e w3 ⟨A3, rfl, h3, hb3⟩
  have H3 := Box.mk h3
  have HB3 := Box.mk (below_tr HB2.out HB2.out.size hb3)
  clear h3 hb3
  go_wp2_with fail
  refine (c_Sizes A3 2 2 exMs w3 H3.out).mono ?_
  rintro e w4 ⟨rfl, hb4⟩
  have HB4 := Box.mk (below_tr HB3.out HB3.out.size hb4)
  clear hb4
  rw [exMs_szs]
  go_wp2_with fail
  go_ret
  exact ⟨rfl, HB4.out⟩
end Go.Proofs.Ytchhjldopecliaa
namespace Go.Proofs.Ytchhjldopecliaa
open Go.RowKit

/-! ### modules with another overlay -/
def setOv (o : Int) (m : Md) : Md := ⟨m.nm, o, m.pr, m.sz, m.cl⟩
def setOvP (o : Int) (p : Pc) : Pc := ⟨p.nm, o, p.sz, p.cl⟩
theorem prM_setOv (o : Int) (m : Md) : prM (setOv o m) = (prM m).map (setOvP o) := by
  unfold prM
  rw [List.map_map]
  rfl
theorem prs_setOv (o : Int) (ms : List Md) : prs (ms.map (setOv o)) = (prs ms).map (setOvP o) := by
  unfold prs
  rw [List.flatMap_map, List.map_flatMap]
  congr 1
  funext m
  exact prM_setOv o m
theorem fnd_setOv (o : Int) (x : Str) (ps : List Pc) : fnd x (ps.map (setOvP o)) = (fnd x ps).map (setOvP o) := by
  unfold fnd
  rw [List.find?_map]
  rfl
theorem clOf_setOv (o : Int) (x : Str) (ps : List Pc) : clOf (ps.map (setOvP o)) x = clOf ps x := by
  unfold clOf
  rw [fnd_setOv]
  cases fnd x ps <;> rfl
theorem ovOf_setOv (o : Int) (x : Str) (ps : List Pc) : ovOf (ps.map (setOvP o)) x = if (fnd x ps).isSome then o else 0 := by
  unfold ovOf
  rw [fnd_setOv]
  cases fnd x ps <;> rfl
theorem missL_setOv (o : Int) (ps : List Pc) : missL (ps.map (setOvP o)) = missL ps := by
  have h1 : called (ps.map (setOvP o)) = called ps := by
    unfold called
    rw [List.flatMap_map]
    rfl
  unfold missL
  rw [h1]
  congr 1
  funext s
  rw [fnd_setOv]
  cases fnd s ps <;> rfl
theorem lStep_cl {ps ps' : List Pc} (h : ∀ x, clOf ps x = clOf ps' x) (top : Str) (rest : List Str) (s : Str) : lStep ps top rest s = lStep ps' top rest s := by
  unfold lStep
  rw [h]
theorem lRun_cl {ps ps' : List Pc} (h : ∀ x, clOf ps x = clOf ps' x) : ∀ (w : List Str) (top : Str) (rest : List Str) (r r' : Int × Int), (lRun ps top rest r w).isNone = (lRun ps' top rest r' w).isNone
  | [], _, _, _, _ => rfl
  | s :: w, top, rest, r, r' => by
    unfold lRun
    rw [lStep_cl h]
    cases lStep ps' top rest s with
    | none => rfl
    | some p => exact lRun_cl h w _ _ _ _
theorem lRun_still {ps : List Pc} {r : Int × Int} (h : ∀ x, entR r (ovOf ps x) = r) : ∀ (w : List Str) (top : Str) (rest : List Str) (n : Int), lRun ps top rest r w = some n → n = r.2
  | [], _, _, n, e => by simpa [lRun, eq_comm] using e
  | s :: w, top, rest, n, e => by
    unfold lRun at e
    cases hl : lStep ps top rest s with
    | none => rw [hl] at e; cases e
    | some p =>
      rw [hl] at e
      simp only [h] at e
      exact lRun_still h w _ _ n e

theorem vld_setOv {ms : List Md} (o : Int) (ho : 0 ≤ o ∧ o ≤ 15) (h : vld ms = 0) : vld (ms.map (setOv o)) = 0 := by
  have hg := vld_good h
  have e1 : largeB (ms.map (setOv o)) = largeB ms := by
    unfold largeB sumL
    rw [List.any_map, List.length_map, List.map_map]
    rfl
  have e2 : (ms.map (setOv o)).any (fun m => !rightB m) = false := by
    rw [List.any_eq_false]
    intro m hm
    obtain ⟨m', hm', rfl⟩ := List.mem_map.1 hm
    have := hg.right m' hm'
    unfold rightB at this ⊢
    simp only [setOv, Bool.and_eq_true, decide_eq_true_eq] at this ⊢
    simp [this.1, this.2.1, ho.1, ho.2, this.2.2.2.2.1, this.2.2.2.2.2]
  have e3 : (ms.map (setOv o)).any misfit = ms.any misfit := by
    rw [List.any_map]
    rfl
  have e4 : namesOf (ms.map (setOv o)) = namesOf ms := by
    unfold namesOf
    rw [List.map_map]
    rfl
  have e5 : procsOf (ms.map (setOv o)) = procsOf ms := by
    unfold procsOf
    rw [List.flatMap_map]
    rfl
  have e6 : ms.any (fun m => !rightB m) = false := by
    rw [List.any_eq_false]
    intro m hm
    simp [hg.right m hm]
  unfold vld at h ⊢
  rw [e1, e2, e3, e4, e5]
  rw [e6] at h
  exact h
theorem opn_setOv {ms : List Md} (o : Int) (ho : 0 ≤ o ∧ o ≤ 15) (h : vld ms = 0) : opn (ms.map (setOv o)) = opn ms := by
  unfold opn
  rw [vld_setOv o ho h, h, missS, missS, prs_setOv, missL_setOv]
theorem opf_setOv {ms : List Md} (o : Int) (ho : 0 ≤ o ∧ o ≤ 15) (h : vld ms = 0) (x : Str) : opf (ms.map (setOv o)) x = opf ms x := by
  unfold opf
  rw [opn_setOv o ho h, prs_setOv, fnd_setOv]
  simp
theorem ldsR_err (ps : List Pc) (x : Str) (walk : List Str) : (ldsR ps x walk).2 = if (lRun ps x [] (entR (0, 0) (ovOf ps x)) walk).isNone then 7 else 0 := by
  unfold ldsR
  cases lRun ps x [] (entR (0, 0) (ovOf ps x)) walk <;> rfl
theorem lds_setOv {ms : List Md} (o : Int) (ho : 0 ≤ o ∧ o ≤ 15) (h : vld ms = 0) (x : Str) (walk : List Str) : (lds (ms.map (setOv o)) x walk).2 = (lds ms x walk).2 := by
  unfold lds
  rw [opf_setOv o ho h]
  split
  · rfl
  · split
    · rfl
    · rw [ldsR_err, ldsR_err, prs_setOv, lRun_cl (fun y => clOf_setOv o y (prs ms))]
theorem lds_root (ms : List Md) (x : Str) (walk : List Str) : (lds (ms.map (setOv 0)) x walk).1 = 0 := by
  unfold lds
  split
  · rfl
  · split
    · rfl
    · have hov : ∀ y, ovOf (prs (ms.map (setOv 0))) y = 0 := by
        intro y
        rw [prs_setOv, ovOf_setOv]
        split <;> rfl
      unfold ldsR
      rw [hov]
      have e : entR (0, 0) 0 = (0, 0) := by simp [entR]
      rw [e]
      cases hr : lRun (prs (ms.map (setOv 0))) x [] (0, 0) walk with
      | none => rfl
      | some n => exact lRun_still (r := (0, 0)) (fun y => by rw [hov]; exact e) walk x [] n hr
theorem lds_one (ms : List Md) (x : Str) (walk : List Str) : (lds (ms.map (setOv 1)) x walk).1 ≤ 1 ∧ ((lds (ms.map (setOv 1)) x walk).2 = 0 → (lds (ms.map (setOv 1)) x walk).1 = 1) := by
  unfold lds
  split
  · rename_i h
    exact ⟨by show (0 : Int) ≤ 1; decide, fun h' => absurd h' h⟩
  · rename_i h
    split
    · exact ⟨by show (0 : Int) ≤ 1; decide, fun h => by cases h⟩
    · have h0 : opf (ms.map (setOv 1)) x = 0 := Classical.not_not.1 h
      have hx : (fnd x (prs ms)).isSome = true := by
        unfold opf at h0
        split at h0
        · rename_i h1; exact absurd h0 h1
        · split at h0
          · cases h0
          · rename_i h2
            rw [prs_setOv, fnd_setOv] at h2
            cases hf : fnd x (prs ms) with
            | none => rw [hf] at h2; exact absurd rfl h2
            | some p => rfl
      have hov : ∀ y, ovOf (prs (ms.map (setOv 1))) y = if (fnd y (prs ms)).isSome then 1 else 0 := fun y => by rw [prs_setOv, ovOf_setOv]
      have e : entR (0, 0) (ovOf (prs (ms.map (setOv 1))) x) = (1, 1) := by rw [hov, hx]; rfl
      unfold ldsR
      rw [e]
      have hst : ∀ y, entR (1, 1) (ovOf (prs (ms.map (setOv 1))) y) = (1, 1) := by
        intro y
        rw [hov]
        split <;> rfl
      cases hr : lRun (prs (ms.map (setOv 1))) x [] (1, 1) walk with
      | none => exact ⟨by show (0 : Int) ≤ 1; decide, fun h => by cases h⟩
      | some n =>
        have := lRun_still hst walk x [] n hr
        simp only at this ⊢
        omega

/-! ### rows of one's own whose elements are many cells -/
theorem flatten_get : ∀ {css : List (List Value)} {sz : Nat}, (∀ cs ∈ css, cs.length = sz) → ∀ {i j : Nat} {cs : List Value} {u : Value}, css[i]? = some cs → cs[j]? = some u → css.flatten[i * sz + j]? = some u
  | [], _, _, _, _, _, _, h, _ => by simp at h
  | c :: r, sz, hl, 0, j, cs, u, h, hu => by
    obtain rfl : c = cs := by simpa using h
    have hj : j < c.length := (List.getElem?_eq_some_iff.1 hu).1
    rw [List.flatten_cons, Nat.zero_mul, Nat.zero_add, List.getElem?_append_left hj]
    exact hu
  | c :: r, sz, hl, i + 1, j, cs, u, h, hu => by
    have hc := hl c (List.mem_cons_self ..)
    rw [List.flatten_cons, List.getElem?_append_right (by rw [hc]; exact Nat.le_trans (Nat.le_mul_of_pos_left _ (Nat.succ_pos i)) (Nat.le_add_right _ _))]
    have e : (i + 1) * sz + j - c.length = i * sz + j := by rw [hc, Nat.succ_mul]; omega
    rw [e]
    exact flatten_get (fun cs hcs => hl cs (List.mem_cons_of_mem _ hcs)) (by simpa using h) hu

/-- A row of one's own, of elements that are told in a world before. -/
def OwnL {α : Type} (w w0 : World) (base : Nat) (e : TypeId) (sz : Nat) (R : World → α → List Value → Prop) (v : Value) (xs : List α) : Prop :=
  ∃ css : List (List Value), w.ownsRow base e sz v xs.length css.flatten ∧ (∀ cs ∈ css, cs.length = sz) ∧ css.length = xs.length ∧ ∀ (i : Nat) (x : α) (cs : List Value), xs[i]? = some x → css[i]? = some cs → R w0 x cs
section
variable {α : Type} {w w0 : World} {base : Nat} {e : TypeId} {sz : Nat} {R : World → α → List Value → Prop} {v : Value} {xs : List α}
theorem OwnL.nil : OwnL w w0 base e sz R (.slice none 0 0) [] := ⟨[], World.ownsRow_nil _ _ _ _, by simp, rfl, by simp⟩
theorem OwnL.kept {w1 : World} {row : Option Nat} (h : OwnL w w0 base e sz R v xs) (hg : w.grownBy w1 row) (hne : v.ownBlock = none ∨ v.ownBlock ≠ row) : OwnL w1 w0 base e sz R v xs := by
  obtain ⟨css, h1, h2⟩ := h
  exact ⟨css, h1.kept hg hne, h2⟩
theorem OwnL.below {w1 : World} (h : OwnL w w0 base e sz R v xs) (hb : Below w.heap.size w w1) : OwnL w1 w0 base e sz R v xs := by
  obtain ⟨css, h1, h2⟩ := h
  exact ⟨css, own_below h1 hb, h2⟩
theorem OwnL.lt (h : OwnL w w0 base e sz R v xs) : ∀ B, v.ownBlock = some B → base ≤ B ∧ B < w.heap.size := by
  obtain ⟨css, h1, _⟩ := h
  exact h1.lt
theorem OwnL.slr (h : OwnL w w0 base e sz R v xs) (hR : Mono R) (hb : Below w0.heap.size w0 w) (hl : xs.length ≤ LIM) : ∃ A c, v = .slice A xs.length c ∧ SlR w sz R A xs.length c xs := by
  obtain ⟨css, ho, hcs, hlen, hx⟩ := h
  rcases ho.2 with ⟨rfl, h0⟩ | ⟨g, cap, cur, rfl, hbb, hg, hnc, hcm, hsz, ht⟩
  · refine ⟨none, 0, by rw [h0], rfl, by omega, hl, fun hn => by omega⟩
  · refine ⟨_, cap, rfl, rfl, hnc, hl, fun _ => ⟨g, 0, rfl, (Array.getElem?_eq_some_iff.1 hg).1, fun i x hxi => ?_⟩⟩
    have hi : i < css.length := by rw [hlen]; exact (List.getElem?_eq_some_iff.1 hxi).1
    refine ⟨css[i], hcs _ (List.getElem_mem hi), hR _ _ _ _ hb (hx i x _ hxi (List.getElem?_eq_getElem hi)), fun j u hu => ?_⟩
    have hfl := flatten_get hcs (List.getElem?_eq_getElem hi) hu
    have := ho.cells (g := g) rfl (i * sz + j) u hfl
    have ha : (⟨g, 0, none⟩ : Addr).add (i * sz + j) = ⟨g, 0 + i * sz + j, none⟩ := by unfold Addr.add; split <;> simp_all
    rwa [ha] at this
theorem OwnL.opened (h : OwnL w w0 base e sz R v xs) : ∃ flat, w.ownsRow base e sz v xs.length flat ∧
    ∀ (w1 : World) (v1 : Value) (x : α) (cs : List Value), cs.length = sz → R w0 x cs → w1.ownsRow base e sz v1 (xs.length + 1) (flat ++ cs) → OwnL w1 w0 base e sz R v1 (xs ++ [x]) := by
  obtain ⟨css, h1, h2, h3, h4⟩ := h
  refine ⟨css.flatten, h1, fun w1 v1 x cs hc hx ho => ⟨css ++ [cs], ?_, ?_, by simp [h3], ?_⟩⟩
  · rw [List.flatten_append, List.length_append]
    simpa using ho
  · intro c hcc
    rcases List.mem_append.1 hcc with hcc | hcc
    · exact h2 c hcc
    · obtain rfl : c = cs := by simpa using hcc
      exact hc
  · intro i y c hy hcc
    by_cases hi : i < xs.length
    · rw [List.getElem?_append_left hi] at hy
      rw [List.getElem?_append_left (by omega)] at hcc
      exact h4 i y c hy hcc
    · rw [List.getElem?_append_right (by omega)] at hy
      rw [List.getElem?_append_right (by omega), h3] at hcc
      cases hk : i - xs.length with
      | zero =>
        rw [hk] at hy hcc
        obtain rfl : x = y := by simpa using hy
        obtain rfl : cs = c := by simpa using hcc
        exact hx
      | succ q => rw [hk] at hy; simp at hy
end
end Go.Proofs.Ytchhjldopecliaa
namespace Go.Proofs.Ytchhjldopecliaa
open Go.RowKit

theorem info_md : (Try.prog.info? 33).map (fun i => (i.zero, i.size, i.bytes)) = some (some (.agg #[.string ByteArray.empty, .int .i64 0, .slice none 0 0, .slice none 0 0, .slice none 0 0]), 5, 96) := by kernel_rfl
theorem md_zero_size : (Value.agg #[.string ByteArray.empty, .int .i64 0, .slice none 0 0, .slice none 0 0, .slice none 0 0]).cells.size = 5 := by kernel_rfl

theorem src_new_at (w : World) (cs : List Value) (t : TypeId) (p sz : Nat) (hp : p = w.heap.size) (hl : cs.length = sz) (h1 : ∀ u ∈ cs, u.oneCell' = true) : Src (w.alloc (.cells cs.toArray t)) (some ⟨p, 0, none⟩) 1 sz cs := by
  subst hp hl
  exact src_new w cs t h1

/-- One's own module's cells. -/
def MdB (w : World) (p : Nat) (nm : Str) (o : Int) (s1 s2 s3 : Value) : Prop := w.heap[p]? = some (.cells #[.string nm, .int .i64 o, s1, s2, s3] 33 (0, 0))
theorem MdB.cells {w : World} {p : Nat} {nm : Str} {o : Int} {s1 s2 s3 : Value} (h : MdB w p nm o s1 s2 s3) :
    w.cell? ⟨p, 0, none⟩ = some (.string nm) ∧ w.cell? ⟨p, 1, none⟩ = some (.int .i64 o) ∧ w.cell? ⟨p, 2, none⟩ = some s1 ∧ w.cell? ⟨p, 3, none⟩ = some s2 ∧ w.cell? ⟨p, 4, none⟩ = some s3 ∧ w.frozen? ⟨p, 1, none⟩ = false := by
  unfold MdB at h
  simp [World.cell?, World.frozen?, h]
theorem MdB.lt {w : World} {p : Nat} {nm : Str} {o : Int} {s1 s2 s3 : Value} (h : MdB w p nm o s1 s2 s3) : p < w.heap.size := (Array.getElem?_eq_some_iff.1 h).1
theorem MdB.set {w : World} {p : Nat} {nm : Str} {o : Int} {s1 s2 s3 : Value} (h : MdB w p nm o s1 s2 s3) (o' : Int) : MdB (w.setCell ⟨p, 1, none⟩ (.int .i64 o')) p nm o' s1 s2 s3 ∧ w.grownBy (w.setCell ⟨p, 1, none⟩ (.int .i64 o')) (some p) := by
  unfold MdB at *
  refine ⟨?_, ⟨rfl, rfl, rfl, by simp [World.setCell], fun i hi hne => ?_⟩⟩
  · simp [World.setCell, Array.getElem?_modify, h]
  · simp only [World.setCell]
    have hne' : p ≠ i := fun e => hne (by rw [e])
    simp [Array.getElem?_modify, hne']
theorem MdB.new (w : World) (nm : Str) (o : Int) (s1 s2 s3 : Value) : MdB (w.alloc (.cells #[.string nm, .int .i64 o, s1, s2, s3] 33)) w.heap.size nm o s1 s2 s3 := heap_alloc_new w _

def ltB (v : Value) (p : Nat) : Prop := ∀ B, v.ownBlock = some B → B < p
theorem own_ne {v : Value} {p : Nat} (h : ltB v p) : v.ownBlock = none ∨ v.ownBlock ≠ some p := by
  cases hv : v.ownBlock with
  | none => exact .inl rfl
  | some q => exact .inr (fun e => by injection e with e; have := h q hv; omega)

set_option maxRecDepth 100000 in
set_option maxHeartbeats 2000000 in
theorem c_LinkWhole (A : Option Addr) (n c : Nat) (ms : List Md) (x : Str) (A2 : Option Addr) (n2 c2 : Nat) (walk : List Str) (w : World) (h : SlR w 5 RMd A n c ms) (h2 : SlR w 1 RStr A2 n2 c2 walk) (hx : x.size ≤ LIM) :
    Calls Try.prog 3 #[.slice A n c, .string x, .slice A2 n2 c2] w fun e w' => e = .returned (.bool true) ∧ Below w.heap.size w w' := by
  have hlim := h.lim
  have hlim2 := h2.lim
  have H := Box.mk h
  have H2 := Box.mk h2
  clear h h2
  rw [LIM_eq] at hx
  go_enter Try.func3, Try.ntmps3
  go_wp2_with fail
  refine (c_over A n c ms w H.out).mono ?_
  rintro e w1 ⟨⟨q, rfl, hq⟩, hb1⟩
  have HB1 := Box.mk hb1
  have HQ := Box.mk hq
  clear hb1 hq
  cases q
  case true =>
    go_wp2_with fail
    refine (c_known w1).mono ?_
    rintro e w2 ⟨rfl, hb2⟩
    have HB2 := Box.mk (below_tr HB1.out HB1.out.size hb2)
    clear hb2
    go_wp2_with fail
    go_ret
    exact ⟨rfl, HB2.out⟩
  case false =>
    have HNB : Box (n < 65536) := ⟨HQ.out rfl⟩
    clear HQ
    by_cases hxm : ((x.size : Nat) : Int) ≤ 65536
    case neg =>
      go_wp2_with fail
      refine (c_known w1).mono ?_
      rintro e w2 ⟨rfl, hb2⟩
      have HB2 := Box.mk (below_tr HB1.out HB1.out.size hb2)
      clear hb2
      go_wp2_with fail
      go_ret
      exact ⟨rfl, HB2.out⟩
    case pos =>
      go_wp2_with fail
      refine (c_heavyTexts A2 n2 c2 walk w1 (H2.out.below mono_str HB1.out)).mono ?_
      rintro e w2 ⟨rfl, rfl⟩
      generalize hvyK n2 walk = hv
      by_cases hvm : hv ≤ 65536
      case neg =>
        go_wp2_with fail
        refine (c_known w1).mono ?_
        rintro e w2 ⟨rfl, hb2⟩
        have HB2 := Box.mk (below_tr HB1.out HB1.out.size hb2)
        clear hb2
        go_wp2_with fail
        go_ret
        exact ⟨rfl, HB2.out⟩
      case pos =>
        go_wp2_with fail
        refine (c_Loads A n c ms x A2 n2 c2 walk w1 (H.out.below mono_md HB1.out) (H2.out.below mono_str HB1.out)).mono ?_
        rintro e w2 ⟨rfl, hb2⟩
        have HB2 := Box.mk (below_tr HB1.out HB1.out.size hb2)
        clear hb2
        generalize hE : (lds ms x walk).2 = E
        have HE := Box.mk hE
        clear hE
        generalize (lds ms x walk).1 = E1
        go_wp2_with fail
        go_loopw [9, 10, 11, 12] (fun v9 v10 i _ wr => ∃ k : Nat, k ≤ n ∧ i = .int .i64 k ∧ Box (Below w.heap.size w wr) ∧ Box (OwnL wr w w.heap.size 33 5 RMd v9 ((ms.take k).map (setOv 0))) ∧ Box (OwnL wr w w.heap.size 33 5 RMd v10 ((ms.take k).map (setOv 1))) ∧ Box (Apart v9 v10)) (fun _ _ i _ _ => n - (intOf i).toNat)
        case atStart => exact ⟨0, Nat.zero_le _, rfl, HB2, ⟨OwnL.nil⟩, ⟨OwnL.nil⟩, ⟨.inl rfl⟩⟩
        case round =>
          obtain ⟨k, hk, rfl, HB, H9, H10, HAp⟩ := hrel
          by_cases hlt : k < n
          · obtain ⟨b, off, m, A1, n1, c1, A3, n3, c3, A4, n4, c4, rfl, hb, hm, hM, h0, h1, h2, h3, h4⟩ := H.out.md_at k hlt
            replace h0 := cellk HB.out hb h0
            replace h1 := cellk HB.out hb h1
            replace h2 := cellk HB.out hb h2
            replace h3 := cellk HB.out hb h3
            replace h4 := cellk HB.out hb h4
            have HM := Box.mk hM
            have HK9 : Box (((ms.take k).map (setOv 0)).length = k ∧ ((ms.take k).map (setOv 1)).length = k) := ⟨by
              have := H.out.len
              simp; omega⟩
            have HT : Box (∀ o, (ms.take (k + 1)).map (setOv o) = (ms.take k).map (setOv o) ++ [setOv o m]) := ⟨fun o => by rw [List.take_add_one, hm]; simp⟩
            have N9 : Box (ltB u9 wr.heap.size) := ⟨fun B e => (H9.out.lt B e).2⟩
            have N10 : Box (ltB u10 wr.heap.size) := ⟨fun B e => (H10.out.lt B e).2⟩
            have HR0 : Box (∀ o, RMd w (setOv o m) [.string m.nm, .int .i64 o, .slice A1 n1 c1, .slice A3 n3 c3, .slice A4 n4 c4]) := ⟨fun o => ⟨A1, n1, c1, A3, n3, c3, A4, n4, c4, rfl, hM.nm, hM.pr, hM.sz, hM.cl⟩⟩
            clear hM hm
            go_upto_region 9 with fail
            have hmd := MdB.new wr m.nm m.ov (.slice A1 n1 c1) (.slice A3 n3 c3) (.slice A4 n4 c4)
            have HB' := Box.mk (bel_alloc2 HB.out (.cells #[.string m.nm, .int .i64 m.ov, .slice A1 n1 c1, .slice A3 n3 c3, .slice A4 n4 c4] 33))
            have H9' := Box.mk (H9.out.below (bel_alloc wr (.cells #[.string m.nm, .int .i64 m.ov, .slice A1 n1 c1, .slice A3 n3 c3, .slice A4 n4 c4] 33)))
            have H10' := Box.mk (H10.out.below (bel_alloc wr (.cells #[.string m.nm, .int .i64 m.ov, .slice A1 n1 c1, .slice A3 n3 c3, .slice A4 n4 c4] 33)))
            have hpB : Box (w.heap.size ≤ wr.heap.size) := ⟨HB.out.size⟩
            generalize hp : wr.heap.size = p at *
            generalize (wr.alloc (.cells #[.string m.nm, .int .i64 m.ov, .slice A1 n1 c1, .slice A3 n3 c3, .slice A4 n4 c4] 33)) = W1 at *
            have HMD := Box.mk hmd
            obtain ⟨d0, d1, d2, d3, d4, f1⟩ := hmd.cells
            clear hp hmd h0 h1 h2 h3 h4 HB H9 H10
            go_upto_region 10 with fail
            obtain ⟨hmd2, hg2⟩ := HMD.out.set 0
            have HMD2 := Box.mk hmd2
            have HB2' : Box (Below w.heap.size w (W1.setCell ⟨p, 1, none⟩ (.int .i64 0))) := ⟨HB'.out.grown hg2 HB'.out.size (fun q hq => by injection hq with hq; have := hpB.out; omega)⟩
            have H9a := Box.mk (H9'.out.kept hg2 (own_ne N9.out))
            have H10a := Box.mk (H10'.out.kept hg2 (own_ne N10.out))
            generalize (W1.setCell ⟨p, 1, none⟩ (.int .i64 0)) = W2 at *
            clear hmd2 hg2 d0 d1 d2 d3 d4 f1 HB' H9' H10' HMD
            obtain ⟨d0, d1, d2, d3, d4, f1⟩ := HMD2.out.cells
            obtain ⟨flat9, o9, P9⟩ := H9a.out.opened
            have O9 := Box.mk o9
            have P9' := Box.mk P9
            have BS0 : Box (w.heap.size ≤ W2.heap.size) := ⟨HB2'.out.size⟩
            clear o9 P9
            go_upto_region 11 with (at_builtin; refine wpL_app _ w.heap.size rfl _ _ 22 33 rfl (.agg #[.string ByteArray.empty, .int .i64 0, .slice none 0 0, .slice none 0 0, .slice none 0 0]) 5 96 Try.underlying22 info_md md_zero_size (by decide) (by decide) u9 _ flat9 rfl (O9.out.alloc _) (some ⟨_, 0, none⟩) 1 1 [.string m.nm, .int .i64 0, .slice A1 n1 c1, .slice A3 n3 c3, .slice A4 n4 c4] rfl (src_new_at _ _ _ _ _ rfl rfl (by simp [Value.oneCell'])) (by have := HK9.out; have := HNB.out; omega) (by have := BS0.out; simp; omega) ?_; intro v9' wa ho9 hg9' hat9)
            have hg9 := grown_al W2 hg9' rfl rfl rfl rfl
            have hpW2 := HMD2.out.lt
            have HAT9 : Box (v9'.ownBlock ≠ some p) := ⟨by
              rcases hat9 with e | e
              · rw [e]; intro e'; have := N9.out p e'; omega
              · rw [e]; intro e'; injection e' with e'; simp at e'; omega⟩
            have H9b := Box.mk (P9'.out wa v9' (setOv 0 m) _ rfl (HR0.out 0) ho9)
            have HMDa : Box (MdB wa p m.nm 0 (.slice A1 n1 c1) (.slice A3 n3 c3) (.slice A4 n4 c4)) := ⟨(hg9.block p hpW2 (fun e => by have := N9.out p e.symm; omega)).trans HMD2.out⟩
            have H10b := Box.mk (H10a.out.kept hg9 HAp.out.symm)
            have HBa : Box (Below w.heap.size w wa) := ⟨HB2'.out.grown hg9 HB2'.out.size (fun q hq => (H9a.out.lt q hq).1)⟩
            have HApa : Box (Apart v9' u10) := ⟨HAp.out.step (L := p) N10.out (by simp; omega) hat9⟩
            rw [← HT.out 0] at H9b
            clear hg9 hg9' ho9 hat9 d0 d1 d2 d3 d4 f1 H10a H9a HB2' HMD2 O9 P9' HAp BS0 hpW2
            obtain ⟨d0, d1, d2, d3, d4, f1⟩ := HMDa.out.cells
            go_upto_region 12 with fail
            obtain ⟨hmd3, hg3⟩ := HMDa.out.set 1
            have HMD3 := Box.mk hmd3
            have HB3' : Box (Below w.heap.size w (wa.setCell ⟨p, 1, none⟩ (.int .i64 1))) := ⟨HBa.out.grown hg3 HBa.out.size (fun q hq => by injection hq with hq; have := hpB.out; omega)⟩
            have H9c := Box.mk (H9b.out.kept hg3 (.inr HAT9.out))
            have H10c := Box.mk (H10b.out.kept hg3 (own_ne N10.out))
            generalize (wa.setCell ⟨p, 1, none⟩ (.int .i64 1)) = W3 at *
            clear hmd3 hg3 d0 d1 d2 d3 d4 f1 HBa H9b H10b HMDa
            obtain ⟨d0, d1, d2, d3, d4, f1⟩ := HMD3.out.cells
            obtain ⟨flat10, o10, P10⟩ := H10c.out.opened
            have O10 := Box.mk o10
            have P10' := Box.mk P10
            have BS1 : Box (w.heap.size ≤ W3.heap.size) := ⟨HB3'.out.size⟩
            clear o10 P10
            go_wp2_with (at_builtin; refine wpL_app _ w.heap.size rfl _ _ 22 33 rfl (.agg #[.string ByteArray.empty, .int .i64 0, .slice none 0 0, .slice none 0 0, .slice none 0 0]) 5 96 Try.underlying22 info_md md_zero_size (by decide) (by decide) u10 _ flat10 rfl (O10.out.alloc _) (some ⟨_, 0, none⟩) 1 1 [.string m.nm, .int .i64 1, .slice A1 n1 c1, .slice A3 n3 c3, .slice A4 n4 c4] rfl (src_new_at _ _ _ _ _ rfl rfl (by simp [Value.oneCell'])) (by have := HK9.out; have := HNB.out; omega) (by have := BS1.out; simp; omega) ?_; intro v10' wb ho10 hg10' hat10)
            have hg10 := grown_al W3 hg10' rfl rfl rfl rfl
            have H10d := Box.mk (P10'.out wb v10' (setOv 1 m) _ rfl (HR0.out 1) ho10)
            rw [← HT.out 1] at H10d
            have H9d := Box.mk (H9c.out.kept hg10 HApa.out)
            have HBd : Box (Below w.heap.size w wb) := ⟨HB3'.out.grown hg10 HB3'.out.size (fun q hq => (H10c.out.lt q hq).1)⟩
            have HApd : Box (Apart v9' v10') := ⟨(Apart.step (L := W3.heap.size) HApa.out.symm (fun B e => (H9c.out.lt B e).2) (by simp) hat10).symm⟩
            clear hg10 hg10' ho10 hat10 d0 d1 d2 d3 d4 f1
            go_roundw
            case rel => exact ⟨k + 1, by omega, by go_num, HBd, H9d, H10d, HApd⟩
            case measure => simp [intOf]; omega
          · obtain rfl : k = n := by omega
            rw [List.take_of_length_le (by rw [H.out.len]; exact Nat.le_refl _)] at H9 H10
            have hml : ms.length = k := H.out.len
            have hk65 := HNB.out
            obtain ⟨B9, c9, e9, S9⟩ := H9.out.slr mono_md HB.out (by rw [List.length_map, LIM_eq]; omega)
            rw [List.length_map, hml] at e9 S9
            subst e9
            obtain ⟨B10, c10, e10, S10⟩ := H10.out.slr mono_md HB.out (by rw [List.length_map, LIM_eq]; omega)
            rw [List.length_map, hml] at e10 S10
            subst e10
            have HS9 := Box.mk S9
            have HS10 := Box.mk S10
            clear S9 S10 H9 H10 hk65
            go_wp2_with fail
            refine (c_Loads B9 _ c9 (ms.map (setOv 0)) x _ n2 c2 walk wr HS9.out (H2.out.below mono_str HB.out)).mono ?_
            rintro e w3 ⟨rfl, hb3⟩
            have HB3 := Box.mk (below_tr HB.out HB.out.size hb3)
            have HS10' := Box.mk (HS10.out.below mono_md hb3)
            clear hb3
            rw [lds_root]
            generalize hF : (lds (ms.map (setOv 0)) x walk).2 = F
            have HF := Box.mk hF
            clear hF
            go_wp2_with fail
            refine (c_Loads B10 _ c10 (ms.map (setOv 1)) x _ n2 c2 walk w3 HS10'.out (H2.out.below mono_str HB3.out)).mono ?_
            rintro e w4 ⟨rfl, hb4⟩
            have HB4 := Box.mk (below_tr HB3.out HB3.out.size hb4)
            clear hb4
            have hone := lds_one ms x walk
            have hset1 := fun hv : vld ms = 0 => lds_setOv (ms := ms) 1 (by decide) hv x walk
            have hset0 := fun hv : vld ms = 0 => lds_setOv (ms := ms) 0 (by decide) hv x walk
            rw [HF.out, HE.out] at hset0
            rw [HE.out] at hset1
            generalize (lds (ms.map (setOv 1)) x walk).2 = G at *
            generalize (lds (ms.map (setOv 1)) x walk).1 = M1 at *
            have HONE := Box.mk hone
            have HSET1 := Box.mk hset1
            have HSET0 := Box.mk hset0
            clear hone hset1 hset0
            go_wp2_with fail
            refine (c_Validate _ k c ms w4 (H.out.below mono_md HB4.out)).mono ?_
            rintro e w5 ⟨rfl, hb5⟩
            have HB5 := Box.mk (below_tr HB4.out HB4.out.size hb5)
            clear hb5
            have hM1 : M1 ≤ 1 := HONE.out.1
            by_cases hv : vld ms = 0
            · have e1 := HSET0.out hv
              have e2 := HSET1.out hv
              subst e1 e2
              rw [hv]
              clear hv
              by_cases hG : G = 0
              · subst hG
                obtain rfl : M1 = 1 := HONE.out.2 rfl
                clear hM1
                go_wp2_with fail
                refine (c_known w5).mono ?_
                rintro e w6 ⟨rfl, hb6⟩
                have HB6 := Box.mk (below_tr HB5.out HB5.out.size hb6)
                clear hb6
                go_wp2_with fail
                go_ret
                exact ⟨rfl, HB6.out⟩
              · have hG' : (G != 0) = true := by simpa using hG
                go_wp2_with fail
                refine (c_known w5).mono ?_
                rintro e w6 ⟨rfl, hb6⟩
                have HB6 := Box.mk (below_tr HB5.out HB5.out.size hb6)
                clear hb6
                go_wp2_with fail
                go_ret
                exact ⟨rfl, HB6.out⟩
            · have hv' : (vld ms == 0) = false := by simpa using hv
              clear hv
              generalize vld ms = V at *
              by_cases hG : G = 0
              · subst hG
                obtain rfl : M1 = 1 := HONE.out.2 rfl
                clear hM1
                go_wp2_with fail
                refine (c_known w5).mono ?_
                rintro e w6 ⟨rfl, hb6⟩
                have HB6 := Box.mk (below_tr HB5.out HB5.out.size hb6)
                clear hb6
                go_wp2_with fail
                go_ret
                exact ⟨rfl, HB6.out⟩
              · have hG' : (G != 0) = true := by simpa using hG
                go_wp2_with fail
                refine (c_known w5).mono ?_
                rintro e w6 ⟨rfl, hb6⟩
                have HB6 := Box.mk (below_tr HB5.out HB5.out.size hb6)
                clear hb6
                go_wp2_with fail
                go_ret
                exact ⟨rfl, HB6.out⟩
end Go.Proofs.Ytchhjldopecliaa
namespace Go.Proofs.Ytchhjldopecliaa
open Go.RowKit

set_option maxRecDepth 100000 in
set_option maxHeartbeats 1000000 in
theorem r_isName (s : ByteArray) (w : World) (hs : s.size ≤ 140737488351232) :
    Calls Try.prog 99 #[.string s] w fun e w' => e = .returned (.bool (nameOk s)) ∧ w = w' := by
  by_cases h1 : 1 ≤ s.size
  case neg =>
    have HF : Box (nameOk s = false) := ⟨by simp [nameOk, h1]⟩
    go_enter Try.func99, Try.ntmps99
    go_wp2_with fail
    go_ret
    exact ⟨rb (by rw [HF.out]), rfl⟩
  case pos =>
  by_cases h10 : s.size ≤ 10
  case neg =>
    have HF : Box (nameOk s = false) := ⟨by simp [nameOk, h10]⟩
    go_enter Try.func99, Try.ntmps99
    go_wp2_with fail
    go_ret
    exact ⟨rb (by rw [HF.out]), rfl⟩
  case pos =>
  go_enter Try.func99, Try.ntmps99
  go_wp2_with fail
  go_loop [3, 4, 5] (fun i _ _ => ∃ k : Nat, k ≤ s.size ∧ i = .int .i64 k ∧ Box (∀ j, j < k → badc j (bAt s j) = false)) (fun i _ _ => s.size - (intOf i).toNat)
  case atStart => exact ⟨0, Nat.zero_le _, rfl, ⟨fun j hj => by omega⟩⟩
  case round =>
    obtain ⟨k, hk, rfl, HK⟩ := hrel
    by_cases hlt : k < s.size
    · have hx := bAt_lt s k
      have hg := bAt_get s k hlt
      generalize hv : bAt s k = v at hx hg
      have HV := Box.mk hv
      clear hv
      go_upto_region 7 with fail
      clear hg
      go_cut [4, 5] (fun t4 t5 w' => t4 = .int .u8 v ∧ t5 = .bool (letr v) ∧ w' = w)
      case first =>
        go_wp2
        all_goals (go_meet; exact ⟨rfl, vb (by simp [letr]; omega), rfl⟩)
      case rest =>
        obtain ⟨rfl, rfl, rfl⟩ := hcut
        generalize hL : letr v = L
        have HL := Box.mk hL
        clear hL
        obtain ⟨z, hz⟩ : ∃ z, ((k : Int) == 0) = z := ⟨_, rfl⟩
        have HE : Box (badc k v = (!L && (z || (v != 95 && (decide (v < 48) || decide (57 < v)))))) := ⟨by
          rw [← hz, ← HL.out]; unfold badc
          have : ((k : Int) == 0) = (k == 0) := by rw [Bool.eq_iff_iff]; simp
          rw [this]⟩
        go_upto_region 8 with fail
        go_cut [4, 54] (fun t4 t45 w' => t4 = .int .u8 v ∧ t45 = .bool (badc k v) ∧ w' = wc)
        case first =>
          cases L <;> cases z
          all_goals go_wp2
          all_goals (go_meet; exact ⟨vi (by omega), vb (by rw [HE.out]; simp <;> omega), rfl⟩)
        case rest =>
          obtain ⟨rfl, rfl, rfl⟩ := hcut
          clear hz
          generalize hL : badc k v = L
          have HL := Box.mk hL
          clear hL
          cases L
          · go_wp2
            go_round
            case rel =>
              refine ⟨k + 1, by omega, by go_num, ⟨fun j hj => ?_⟩⟩
              rcases Nat.lt_or_ge j k with h | h
              · exact HK.out j h
              · obtain rfl : j = k := by omega
                rw [HV.out]
                exact HL.out
            case measure => simp [intOf]; omega
          · go_wp2
            go_ret
            refine ⟨rb ?_, rfl⟩
            rw [nameOk_false hlt (by rw [HV.out]; exact HL.out)]
    · obtain rfl : k = s.size := by omega
      go_wp2_with fail
      go_ret
      refine ⟨rb ?_, rfl⟩
      rw [nameOk_end HK.out]
      simp
      omega
end Go.Proofs.Ytchhjldopecliaa
namespace Go.Proofs.Ytchhjldopecliaa
open Go.RowKit

set_option maxRecDepth 100000 in
set_option maxHeartbeats 2000000 in
theorem r_isLarge (A : Option Addr) (n c : Nat) (ms : List Md) (w : World) (h : SlR w 5 RMd A n c ms) :
    Calls Try.prog 60 #[.slice A n c] w fun e w' => e = .returned (.bool (largeB ms)) ∧ w = w' := by
  have hlim := h.lim
  have HLE : Box (∀ m ∈ ms, m.pr.length ≤ 140737488351232) := ⟨fun m hm => by
    obtain ⟨i, hi⟩ := List.mem_iff_getElem?.1 hm
    have hlt : i < n := by rw [← h.len]; exact (List.getElem?_eq_some_iff.1 hi).1
    obtain ⟨b, off, m', A1, n1, c1, A2, n2, c2, A3, n3, c3, _, _, hm', hM, _⟩ := h.md_at i hlt
    rw [hi] at hm'
    injection hm' with hm'
    subst hm'
    have := hM.pr.lim
    rw [hM.pr.len]
    exact this⟩
  have H := Box.mk h
  clear h
  go_enter Try.func60, Try.ntmps60
  go_wp2_with fail
  go_loop [3, 4, 5] (fun t i _ => ∃ k : Nat, k ≤ n ∧ i = .int .i64 k ∧ (∃ z, t = .int .i64 z ∧ Box (k ≤ 32 → z = sumL (ms.take k))) ∧ Box ((ms.take k).any longC = false)) (fun _ i _ => n - (intOf i).toNat)
  case atStart => exact ⟨0, Nat.zero_le _, rfl, ⟨_, rfl, ⟨fun _ => by simp [sumL]⟩⟩, ⟨by simp⟩⟩
  case round =>
    obtain ⟨k, hk, rfl, ⟨z, rfl, HZ⟩, HA⟩ := hrel
    by_cases hlt : k < n
    · obtain ⟨b, off, m, A1, n1, c1, A2, n2, c2, A3, n3, c3, rfl, hb, hm, hM, h0, h1, h2, h3, h4⟩ := H.out.md_at k hlt
      have HM := Box.mk hM
      have HX := Box.mk hm
      have hn1 := hM.pr.lim
      have hn3 := hM.cl.lim
      have HN1 := Box.mk hM.pr.len
      clear hM hm
      go_wp2_with fail
      go_loop [5] (fun i => ∃ j : Nat, j ≤ n3 ∧ i = .int .i64 j ∧ Box ((m.cl.take j).any (fun l => decide (100 < l.length)) = false)) (fun i => n3 - (intOf i).toNat)
      case atStart => exact ⟨0, Nat.zero_le _, rfl, ⟨by simp⟩⟩
      case round =>
        obtain ⟨j, hj, rfl, HJ⟩ := hrel
        by_cases hjl : j < n3
        · obtain ⟨b6, o6, l, A6, n6, c6, rfl, hb6, hx6, hc6, hl6⟩ := HM.out.cl.sl_at j hjl
          have HX6 := Box.mk hx6
          have hn6 := hl6.lim
          have HL6 := Box.mk hl6.len
          clear hx6 hl6
          by_cases h100 : n6 ≤ 100
          · have hlf : decide (100 < l.length) = false := by rw [HL6.out]; simpa using h100
            have HLF := Box.mk hlf
            clear hlf
            go_wp2_with fail
            go_round
            case rel => exact ⟨j + 1, by omega, by go_num, ⟨anyTake_succ HX6.out HJ.out HLF.out⟩⟩
            case measure => simp [intOf]; omega
          · have hlf : decide (100 < l.length) = true := by rw [HL6.out]; simpa using h100
            have HLF : Box (longC m = true) := ⟨any_of_at HX6.out hlf⟩
            clear hlf
            go_wp2_with fail
            go_ret
            refine ⟨rb ?_, rfl⟩
            simp [largeB, any_of_at HX.out HLF.out]
        · obtain rfl : j = n3 := by omega
          have HLF : Box (longC m = false) := ⟨by
            have := HJ.out
            rwa [List.take_of_length_le (by rw [HM.out.cl.len]; exact Nat.le_refl _)] at this⟩
          go_wp2_with fail
          go_round
          case rel =>
            refine ⟨k + 1, by omega, by go_num, ⟨_, rfl, ⟨fun h32 => ?_⟩⟩, ⟨anyTake_succ HX.out HA.out HLF.out⟩⟩
            have e1 := HZ.out (by omega)
            have e2 := sumL_le (ms := ms) (k := k) (by omega) HLE.out
            rw [sumL_take HX.out, HN1.out, e1]
            unfold wrap64
            omega
          case measure => simp [intOf]; omega
    · obtain rfl : k = n := by omega
      by_cases h32 : 32 < k
      · have HF : Box (largeB ms = true) := ⟨by simp [largeB, H.out.len, h32]⟩
        go_wp2_with fail
        go_ret
        exact ⟨rb (by rw [HF.out]), rfl⟩
      · have hz : z = sumL ms := by
          have := HZ.out (by omega)
          rwa [List.take_of_length_le (by rw [H.out.len]; exact Nat.le_refl _)] at this
        have HF : Box (largeB ms = decide (100 < sumL ms)) := ⟨by
          have := HA.out
          rw [List.take_of_length_le (by rw [H.out.len]; exact Nat.le_refl _)] at this
          simp [largeB, this, H.out.len, h32]⟩
        subst hz
        go_wp2_with fail
        go_ret
        exact ⟨rb (by rw [HF.out]; simp; try omega), rfl⟩
end Go.Proofs.Ytchhjldopecliaa
namespace Go.Proofs.Ytchhjldopecliaa
open Go.RowKit

theorem rightB_split (m : Md) : rightB m = true ↔ nameOk m.nm = true ∧ 0 ≤ m.ov ∧ m.ov ≤ 15 ∧ m.pr.any badN = false ∧ m.sz.any badSz = false ∧ (m.cl.any fun l => l.any badN) = false := by
  unfold rightB
  simp only [Bool.and_eq_true, decide_eq_true_eq, Bool.not_eq_true']
  constructor
  · rintro ⟨h1, h2, h3, h4, h5, h6⟩
    exact ⟨h2, h3, h4, h5, h6, h1⟩
  · rintro ⟨h1, h2, h3, h4, h5, h6⟩
    exact ⟨h6, h1, h2, h3, h4, h5⟩

set_option maxRecDepth 100000 in
set_option maxHeartbeats 4000000 in
theorem r_isModule (m : Md) (A1 : Option Addr) (n1 c1 : Nat) (A2 : Option Addr) (n2 c2 : Nat) (A3 : Option Addr) (n3 c3 : Nat) (w : World) (h : MdIs w m A1 n1 c1 A2 n2 c2 A3 n3 c3) :
    Calls Try.prog 61 #[.agg #[.string m.nm, .int .i64 m.ov, .slice A1 n1 c1, .slice A2 n2 c2, .slice A3 n3 c3]] w fun e w' => e = .returned (.bool (rightB m)) ∧ Below w.heap.size w w' := by
  have hlim1 := h.pr.lim
  have hlim2 := h.sz.lim
  have hlim3 := h.cl.lim
  have hnm := h.nm
  have H := Box.mk (h.below (bel_alloc w (.cells #[.string m.nm, .int .i64 m.ov, .slice A1 n1 c1, .slice A2 n2 c2, .slice A3 n3 c3] 33)))
  clear h
  go_enter Try.func61, Try.ntmps61
  have HB : Box (Below w.heap.size w (w.alloc (.cells #[.string m.nm, .int .i64 m.ov, .slice A1 n1 c1, .slice A2 n2 c2, .slice A3 n3 c3] 33))) := ⟨bel_alloc _ _⟩
  have d0 : (w.alloc (.cells #[.string m.nm, .int .i64 m.ov, .slice A1 n1 c1, .slice A2 n2 c2, .slice A3 n3 c3] 33)).cell? ⟨w.heap.size, 0, none⟩ = some (.string m.nm) := by simp
  have d1 : (w.alloc (.cells #[.string m.nm, .int .i64 m.ov, .slice A1 n1 c1, .slice A2 n2 c2, .slice A3 n3 c3] 33)).cell? ⟨w.heap.size, 1, none⟩ = some (.int .i64 m.ov) := by simp
  have d2 : (w.alloc (.cells #[.string m.nm, .int .i64 m.ov, .slice A1 n1 c1, .slice A2 n2 c2, .slice A3 n3 c3] 33)).cell? ⟨w.heap.size, 2, none⟩ = some (.slice A1 n1 c1) := by simp
  have d3 : (w.alloc (.cells #[.string m.nm, .int .i64 m.ov, .slice A1 n1 c1, .slice A2 n2 c2, .slice A3 n3 c3] 33)).cell? ⟨w.heap.size, 3, none⟩ = some (.slice A2 n2 c2) := by simp
  have d4 : (w.alloc (.cells #[.string m.nm, .int .i64 m.ov, .slice A1 n1 c1, .slice A2 n2 c2, .slice A3 n3 c3] 33)).cell? ⟨w.heap.size, 4, none⟩ = some (.slice A3 n3 c3) := by simp
  go_upto_region 1 with fail
  generalize (w.alloc (.cells #[.string m.nm, .int .i64 m.ov, .slice A1 n1 c1, .slice A2 n2 c2, .slice A3 n3 c3] 33)) = W at *
  go_wp2_with fail
  refine (r_isName m.nm W (by rw [← LIM_eq]; exact hnm)).mono ?_
  rintro e w1 ⟨rfl, rfl⟩
  generalize hq : nameOk m.nm = Q at *
  have HQ := Box.mk hq
  clear hq
  cases Q
  case false =>
    have HF : Box (rightB m = false) := ⟨by rw [Bool.eq_false_iff]; intro e; have := ((rightB_split m).1 e).1; rw [HQ.out] at this; cases this⟩
    go_wp2_with fail
    go_ret
    exact ⟨rb (by rw [HF.out]), HB.out⟩
  case true =>
  by_cases h0 : 0 ≤ m.ov
  case neg =>
    have HF : Box (rightB m = false) := ⟨by rw [Bool.eq_false_iff]; intro e; exact h0 ((rightB_split m).1 e).2.1⟩
    go_wp2_with fail
    go_ret
    exact ⟨rb (by rw [HF.out]), HB.out⟩
  case pos =>
  by_cases h15 : m.ov ≤ 15
  case neg =>
    have HF : Box (rightB m = false) := ⟨by rw [Bool.eq_false_iff]; intro e; exact h15 ((rightB_split m).1 e).2.2.1⟩
    go_wp2_with fail
    go_ret
    exact ⟨rb (by rw [HF.out]), HB.out⟩
  case pos =>
  have HOV : Box (0 ≤ m.ov ∧ m.ov ≤ 15) := ⟨⟨h0, h15⟩⟩
  go_wp2_with fail
  clear h0 h15
  go_loop [3] (fun i => ∃ k : Nat, k ≤ n1 ∧ i = .int .i64 k ∧ Box ((m.pr.take k).any badN = false)) (fun i => n1 - (intOf i).toNat)
  case atStart => exact ⟨0, Nat.zero_le _, rfl, ⟨by simp⟩⟩
  case round =>
    obtain ⟨k, hk, rfl, HP⟩ := hrel
    by_cases hlt : k < n1
    · obtain ⟨b5, o5, x, rfl, hb5, hx5, hs5, hc5⟩ := H.out.pr.str_at k hlt
      have HX := Box.mk hx5
      rw [LIM_eq] at hs5
      clear hx5
      go_wp2_with fail
      refine (r_isName x W hs5).mono ?_
      rintro e w1 ⟨rfl, rfl⟩
      generalize hq : nameOk x = Q at *
      have HQX : Box (badN x = !Q) := ⟨by rw [badN, hq]⟩
      clear hq
      cases Q
      · have HF : Box (rightB m = false) := ⟨by rw [Bool.eq_false_iff]; intro e; have := ((rightB_split m).1 e).2.2.2.1; rw [any_of_at HX.out HQX.out] at this; cases this⟩
        go_wp2_with fail
        go_ret
        exact ⟨rb (by rw [HF.out]), HB.out⟩
      · go_wp2_with fail
        go_round
        case rel => exact ⟨k + 1, by omega, by go_num, ⟨anyTake_succ HX.out HP.out HQX.out⟩⟩
        case measure => simp [intOf]; omega
    · obtain rfl : k = n1 := by omega
      have HPA : Box (m.pr.any badN = false) := ⟨by
        have := HP.out
        rwa [List.take_of_length_le (by rw [H.out.pr.len]; exact Nat.le_refl _)] at this⟩
      go_wp2_with fail
      go_loop [4] (fun i => ∃ k : Nat, k ≤ n2 ∧ i = .int .i64 k ∧ Box ((m.sz.take k).any badSz = false)) (fun i => n2 - (intOf i).toNat)
      case atStart => exact ⟨0, Nat.zero_le _, rfl, ⟨by simp⟩⟩
      case round =>
        obtain ⟨k2, hk2, rfl, HS⟩ := hrel
        by_cases hlt2 : k2 < n2
        · obtain ⟨b5, o5, x, rfl, hb5, hx5, hc5⟩ := H.out.sz.int_at k2 hlt2
          have HX := Box.mk hx5
          clear hx5
          by_cases hx1 : x < 1
          · have HF : Box (rightB m = false) := ⟨by rw [Bool.eq_false_iff]; intro e; have := ((rightB_split m).1 e).2.2.2.2.1; rw [any_of_at HX.out (by simp [badSz, hx1])] at this; cases this⟩
            go_wp2_with fail
            go_ret
            exact ⟨rb (by rw [HF.out]), HB.out⟩
          · by_cases hx2 : 10000 < x
            · have HF : Box (rightB m = false) := ⟨by rw [Bool.eq_false_iff]; intro e; have := ((rightB_split m).1 e).2.2.2.2.1; rw [any_of_at HX.out (by simp [badSz, hx2])] at this; cases this⟩
              go_wp2_with fail
              go_ret
              exact ⟨rb (by rw [HF.out]), HB.out⟩
            · have HBS : Box (badSz x = false) := ⟨by simp [badSz]; omega⟩
              go_wp2_with fail
              go_round
              case rel => exact ⟨k2 + 1, by omega, by go_num, ⟨anyTake_succ HX.out HS.out HBS.out⟩⟩
              case measure => simp [intOf]; omega
        · obtain rfl : k2 = n2 := by omega
          have HSA : Box (m.sz.any badSz = false) := ⟨by
            have := HS.out
            rwa [List.take_of_length_le (by rw [H.out.sz.len]; exact Nat.le_refl _)] at this⟩
          go_wp2_with fail
          go_loop [5, 6] (fun i _ => ∃ k : Nat, k ≤ n3 ∧ i = .int .i64 k ∧ Box ((m.cl.take k).any (fun l => l.any badN) = false)) (fun i _ => n3 - (intOf i).toNat)
          case atStart => exact ⟨0, Nat.zero_le _, rfl, ⟨by simp⟩⟩
          case round =>
            obtain ⟨k3, hk3, rfl, HC⟩ := hrel
            by_cases hlt3 : k3 < n3
            · obtain ⟨b6, o6, l, A6, n6, c6, rfl, hb6, hx6, hc6, hl6⟩ := H.out.cl.sl_at k3 hlt3
              have HX6 := Box.mk hx6
              have HL6 := Box.mk hl6
              have hn6 := hl6.lim
              clear hx6 hl6
              go_wp2_with fail
              go_loop [6] (fun i => ∃ k : Nat, k ≤ n6 ∧ i = .int .i64 k ∧ Box ((l.take k).any badN = false)) (fun i => n6 - (intOf i).toNat)
              case atStart => exact ⟨0, Nat.zero_le _, rfl, ⟨by simp⟩⟩
              case round =>
                obtain ⟨k4, hk4, rfl, HL⟩ := hrel
                by_cases hlt4 : k4 < n6
                · obtain ⟨b7, o7, x, rfl, hb7, hx7, hs7, hc7⟩ := HL6.out.str_at k4 hlt4
                  have HX := Box.mk hx7
                  rw [LIM_eq] at hs7
                  clear hx7
                  go_wp2_with fail
                  refine (r_isName x W hs7).mono ?_
                  rintro e w1 ⟨rfl, rfl⟩
                  generalize hq : nameOk x = Q at *
                  have HQX : Box (badN x = !Q) := ⟨by rw [badN, hq]⟩
                  clear hq
                  cases Q
                  · have HF : Box (rightB m = false) := ⟨by rw [Bool.eq_false_iff]; intro e; have := ((rightB_split m).1 e).2.2.2.2.2; rw [any_of_at HX6.out (any_of_at HX.out HQX.out)] at this; cases this⟩
                    go_wp2_with fail
                    go_ret
                    exact ⟨rb (by rw [HF.out]), HB.out⟩
                  · go_wp2_with fail
                    go_round
                    case rel => exact ⟨k4 + 1, by omega, by go_num, ⟨anyTake_succ HX.out HL.out HQX.out⟩⟩
                    case measure => simp [intOf]; omega
                · obtain rfl : k4 = n6 := by omega
                  have HLA : Box (l.any badN = false) := ⟨by
                    have := HL.out
                    rwa [List.take_of_length_le (by rw [HL6.out.len]; exact Nat.le_refl _)] at this⟩
                  go_wp2_with fail
                  go_round
                  case rel => exact ⟨k3 + 1, by omega, by go_num, ⟨anyTake_succ HX6.out HC.out HLA.out⟩⟩
                  case measure => simp [intOf]; omega
            · obtain rfl : k3 = n3 := by omega
              have HCA : Box ((m.cl.any fun l => l.any badN) = false) := ⟨by
                have := HC.out
                rwa [List.take_of_length_le (by rw [H.out.cl.len]; exact Nat.le_refl _)] at this⟩
              have HF : Box (rightB m = true) := ⟨(rightB_split m).2 ⟨HQ.out, HOV.out.1, HOV.out.2, HPA.out, HSA.out, HCA.out⟩⟩
              go_wp2_with fail
              go_ret
              exact ⟨rb (by rw [HF.out]), HB.out⟩
end Go.Proofs.Ytchhjldopecliaa
namespace Go.Proofs.Ytchhjldopecliaa
open Go.RowKit

/-- A set of texts in a map. -/
def MapS (w : World) (b : Nat) (l : List Str) : Prop := MapK encS w b (l.map (fun s => (s, Value.bool true)))
theorem getK_set (x : Str) : ∀ l : List Str, getK x (l.map (fun s => (s, Value.bool true))) = if x ∈ l then some (.bool true) else none
  | [] => rfl
  | s :: l => by
    rw [List.map_cons, getK_cons, getK_set x l]
    by_cases h : x = s
    · simp [h]
    · simp [h]
theorem zero_bool (w : World) : (zeroValue 4).run Try.prog w = .ok (.bool false) w := by kernel_rfl
theorem MapS.look {w : World} {b : Nat} {l : List Str} (h : MapS w b l) (x : Str) : (Instr.lookup 82 (.map (some b)) (.string x) false).run Try.prog w = .ok (.bool (decide (x ∈ l))) w := by
  have := (MapK.look h keyS Try.underlying82 (zero_bool w) (getK_set x l)).1
  by_cases hx : x ∈ l
  · simpa [hx] using this
  · simpa [hx] using this
theorem MapS.add {w : World} {b : Nat} {l : List Str} (h : MapS w b l) (x : Str) (hx : x ∉ l) :
    ∃ w', (Instr.mapUpdate 82 (.map (some b)) (.string x) (.bool true)).run Try.prog w = .ok () w' ∧ MapS w' b (l ++ [x]) ∧ w.grownBy w' (some b) ∧ w'.heap.size = w.heap.size := by
  obtain ⟨w', h1, h2, h3, h4⟩ := MapK.update (P := Try.prog) h keyS Try.underlying82 x (.bool true)
  refine ⟨w', h1, ?_, h3, h4⟩
  rw [setK_new (by rw [getK_set, if_neg hx])] at h2
  unfold MapS
  rw [List.map_append]
  exact h2
theorem MapS.below {w w' : World} {b : Nat} {l : List Str} (h : MapS w b l) (hb : Below w.heap.size w w') : MapS w' b l := MapK.below h hb
theorem MapS.kept {w w' : World} {b : Nat} {l : List Str} {row : Option Nat} (h : MapS w b l) (hg : w.grownBy w' row) (hne : some b ≠ row) : MapS w' b l := MapK.kept h hg hne
theorem MapS.lt {w : World} {b : Nat} {l : List Str} (h : MapS w b l) : b < w.heap.size := MapK.lt h
theorem MapS_made (w : World) : MapS (w.alloc (.map #[] 0)) w.heap.size [] := MapK_made w encS

theorem not_nodup_take {α : Type} [DecidableEq α] {l : List α} {a : List α} {x : α} {r : List α} (h : l = a ++ x :: r) (hx : x ∈ a) : ¬ l.Nodup := by
  subst h
  intro hn
  rw [List.nodup_append] at hn
  exact hn.2.2 x hx x (List.mem_cons_self ..) rfl
theorem namesOf_split {ms : List Md} {k : Nat} {m : Md} (h : ms[k]? = some m) : namesOf ms = namesOf (ms.take k) ++ m.nm :: namesOf (ms.drop (k + 1)) := by
  obtain ⟨h1, h2⟩ := List.getElem?_eq_some_iff.1 h
  have e : ms = ms.take k ++ m :: ms.drop (k + 1) := by
    rw [← h2, ← List.drop_eq_getElem_cons h1, List.take_append_drop]
  unfold namesOf
  conv => lhs; rw [e]
  simp
theorem procsOf_split {ms : List Md} {k : Nat} {m : Md} (h : ms[k]? = some m) {j : Nat} {x : Str} (hj : m.pr[j]? = some x) :
    procsOf ms = (procsOf (ms.take k) ++ m.pr.take j) ++ x :: (m.pr.drop (j + 1) ++ procsOf (ms.drop (k + 1))) := by
  obtain ⟨h1, h2⟩ := List.getElem?_eq_some_iff.1 h
  obtain ⟨h3, h4⟩ := List.getElem?_eq_some_iff.1 hj
  have e : ms = ms.take k ++ m :: ms.drop (k + 1) := by
    rw [← h2, ← List.drop_eq_getElem_cons h1, List.take_append_drop]
  have e2 : m.pr = m.pr.take j ++ x :: m.pr.drop (j + 1) := by
    rw [← h4, ← List.drop_eq_getElem_cons h3, List.take_append_drop]
  unfold procsOf
  conv => lhs; rw [e]
  rw [List.flatMap_append, List.flatMap_cons]
  conv => lhs; rw [e2]
  simp
theorem nodup_snoc {α : Type} {l : List α} {x : α} (h : l.Nodup) (hx : x ∉ l) : (l ++ [x]).Nodup := by
  rw [List.nodup_append]
  refine ⟨h, by simp, fun a ha b hb => ?_⟩
  obtain rfl : b = x := by simpa using hb
  exact fun e => hx (e ▸ ha)

set_option maxRecDepth 100000 in
set_option maxHeartbeats 4000000 in
theorem r_Validate (A : Option Addr) (n c : Nat) (ms : List Md) (w : World) (h : SlR w 5 RMd A n c ms) :
    Calls Try.prog 24 #[.slice A n c] w fun e w' => e = .returned (.int .i64 (vld ms)) ∧ Below w.heap.size w w' := by
  have hlim := h.lim
  have H := Box.mk h
  clear h
  have hmm := @run_makeMap Try.prog
  go_enter Try.func24, Try.ntmps24
  go_wp2_with fail
  refine (r_isLarge A n c ms w H.out).mono ?_
  rintro e w1 ⟨rfl, rfl⟩
  generalize hL : largeB ms = L
  have HL := Box.mk hL
  clear hL
  cases L
  case true =>
    go_wp2_with fail
    go_ret
    exact ⟨ret_int (by simp [vld, HL.out]), Below.refl _ _⟩
  case false =>
  go_wp2_with fail
  go_loopw [3] (fun i wr => ∃ k : Nat, k ≤ n ∧ i = .int .i64 k ∧ Box (Below w.heap.size w wr) ∧ Box ((ms.take k).any (fun m => !rightB m) = false)) (fun i _ => n - (intOf i).toNat)
  case atStart => exact ⟨0, Nat.zero_le _, rfl, ⟨Below.refl _ _⟩, ⟨by simp⟩⟩
  case round =>
    obtain ⟨k, hk, rfl, HB, HR⟩ := hrel
    by_cases hlt : k < n
    · obtain ⟨b, off, m, A1, n1, c1, A2, n2, c2, A3, n3, c3, rfl, hb, hm, hM, h0, h1, h2, h3, h4⟩ := H.out.md_at k hlt
      replace h0 := cellk HB.out hb h0
      replace h1 := cellk HB.out hb h1
      replace h2 := cellk HB.out hb h2
      replace h3 := cellk HB.out hb h3
      replace h4 := cellk HB.out hb h4
      have HM := Box.mk hM
      have HX := Box.mk hm
      clear hM hm
      go_wp2_with fail
      refine (r_isModule m A1 n1 c1 A2 n2 c2 A3 n3 c3 wr (HM.out.below HB.out)).mono ?_
      rintro e w2 ⟨rfl, hb2⟩
      have HB2 := Box.mk (below_tr HB.out HB.out.size hb2)
      clear hb2
      generalize hq : rightB m = R at *
      have HQ := Box.mk hq
      clear hq
      cases R
      · go_wp2_with fail
        go_ret
        refine ⟨ret_int ?_, HB2.out⟩
        simp [vld, HL.out, any_of_at (p := fun m => !rightB m) HX.out (by rw [HQ.out]; rfl)]
      · go_wp2_with fail
        go_roundw
        case rel => exact ⟨k + 1, by omega, by go_num, HB2, ⟨anyTake_succ HX.out HR.out (by rw [HQ.out]; rfl)⟩⟩
        case measure => simp [intOf]; omega
    · obtain rfl : k = n := by omega
      have HRA : Box (ms.any (fun m => !rightB m) = false) := ⟨by
        have := HR.out
        rwa [List.take_of_length_le (by rw [H.out.len]; exact Nat.le_refl _)] at this⟩
      clear HR
      go_wp2_with fail
      go_loopw [4] (fun i wq => ∃ j : Nat, j ≤ k ∧ i = .int .i64 j ∧ Box (Below w.heap.size w wq) ∧ Box ((ms.take j).any misfit = false)) (fun i _ => k - (intOf i).toNat)
      case atStart => exact ⟨0, Nat.zero_le _, rfl, HB, ⟨by simp⟩⟩
      case round =>
        clear HB
        obtain ⟨j, hj, rfl, HB, HF⟩ := hrel
        by_cases hlt2 : j < k
        · obtain ⟨b, off, m, A1, n1, c1, A2, n2, c2, A3, n3, c3, rfl, hb, hm, hM, h0, h1, h2, h3, h4⟩ := H.out.md_at j hlt2
          replace h2 := cellk HB.out hb h2
          replace h3 := cellk HB.out hb h3
          replace h4 := cellk HB.out hb h4
          have HX := Box.mk hm
          have hmis : Box (misfit m = !((n2 == n1) && (n3 == n1))) := ⟨by rw [misfit, hM.pr.len, hM.sz.len, hM.cl.len]⟩
          have hl1 := hM.pr.lim
          have hl2 := hM.sz.lim
          have hl3 := hM.cl.lim
          clear hM hm h0 h1
          by_cases e2 : n2 = n1
          · subst e2
            by_cases e3 : n3 = n2
            · subst e3
              have hq : Box (misfit m = false) := ⟨by rw [hmis.out]; simp⟩
              go_upto_region 11 with fail
              go_quiet (fail)
              have HBq : Box (Below w.heap.size w (wr.drewN nq)) := ⟨⟨HB.out.os, HB.out.tape, HB.out.output, HB.out.size, HB.out.block⟩⟩
              go_wp2_with fail
              go_roundw
              case rel => exact ⟨j + 1, by omega, by go_num, HBq, ⟨anyTake_succ HX.out HF.out hq.out⟩⟩
              case measure => simp [intOf]; omega
            · have hq : Box (misfit m = true) := ⟨by rw [hmis.out]; simp [e3]⟩
              have hz1 : ((n3 : Int) != n2) = true := by simp; omega
              go_upto_region 11 with fail
              go_quiet (fail)
              have HBq : Box (Below w.heap.size w (wr.drewN nq)) := ⟨⟨HB.out.os, HB.out.tape, HB.out.output, HB.out.size, HB.out.block⟩⟩
              go_wp2_with fail
              go_ret
              refine ⟨ret_int ?_, HBq.out⟩
              simp [vld, HL.out, HRA.out, any_of_at HX.out hq.out]
          · have hq : Box (misfit m = true) := ⟨by rw [hmis.out]; simp [e2]⟩
            have hz1 : ((n2 : Int) != n1) = true := by simp; omega
            go_upto_region 11 with fail
            go_quiet (fail)
            have HBq : Box (Below w.heap.size w (wr.drewN nq)) := ⟨⟨HB.out.os, HB.out.tape, HB.out.output, HB.out.size, HB.out.block⟩⟩
            go_wp2_with fail
            go_ret
            refine ⟨ret_int ?_, HBq.out⟩
            simp [vld, HL.out, HRA.out, any_of_at HX.out hq.out]
        · obtain rfl : j = k := by omega
          have HFA : Box (ms.any misfit = false) := ⟨by
            have := HF.out
            rwa [List.take_of_length_le (by rw [H.out.len]; exact Nat.le_refl _)] at this⟩
          clear HF
          have HMa : Box (MapS (wr.alloc (.map #[] 0)) wr.heap.size []) := ⟨MapS_made wr⟩
          have HMb : Box (MapS ((wr.alloc (.map #[] 0)).alloc (.map #[] 0)) wr.heap.size [] ∧ MapS ((wr.alloc (.map #[] 0)).alloc (.map #[] 0)) (wr.heap.size + 1) []) := ⟨HMa.out.below (bel_alloc _ _), by
            have := MapS_made (wr.alloc (.map #[] 0))
            simpa using this⟩
          have HB2 : Box (Below w.heap.size w ((wr.alloc (.map #[] 0)).alloc (.map #[] 0))) := ⟨bel_alloc2 (bel_alloc2 HB.out _) _⟩
          have HWR : Box (w.heap.size ≤ wr.heap.size) := ⟨HB.out.size⟩
          go_wp2_with fail
          clear hmm
          generalize hp : wr.heap.size = p at *
          clear hp
          go_loopw [7, 8] (fun i _ wq => ∃ q : Nat, q ≤ j ∧ i = .int .i64 q ∧ Box (Below w.heap.size w wq) ∧ Box (MapS wq p (namesOf (ms.take q))) ∧ Box (MapS wq (p + 1) (procsOf (ms.take q))) ∧ Box ((namesOf (ms.take q)).Nodup ∧ (procsOf (ms.take q)).Nodup)) (fun i _ _ => j - (intOf i).toNat)
          case atStart => exact ⟨0, Nat.zero_le _, rfl, HB2, ⟨HMb.out.1⟩, ⟨HMb.out.2⟩, ⟨by simp [namesOf, procsOf]⟩⟩
          case round =>
            clear HMa HMb HB2 HB
            obtain ⟨q, hqj, rfl, HB, HN, HP, HD⟩ := hrel
            by_cases hlt3 : q < j
            · obtain ⟨b, off, m, A1, n1, c1, A2, n2, c2, A3, n3, c3, rfl, hb, hm, hM, h0, h1, h2, h3, h4⟩ := H.out.md_at q hlt3
              have HH2 := Box.mk h2
              replace h0 := cellk HB.out hb h0
              replace h2 := cellk HB.out hb h2
              have HM := Box.mk hM
              have HX := Box.mk hm
              have hl1 := hM.pr.lim
              have HBB := Box.mk hb
              have hlk := HN.out.look m.nm
              clear hM hm h1 h3 h4
              by_cases hin : m.nm ∈ namesOf (ms.take q)
              · have hd : decide (m.nm ∈ namesOf (ms.take q)) = true := by simpa using hin
                rw [hd] at hlk
                have HV : Box (vld ms = 5) := ⟨by simp [vld, HL.out, HRA.out, HFA.out, not_nodup_take (namesOf_split HX.out) hin]⟩
                clear hd hin
                go_wp2_with fail
                go_ret
                exact ⟨ret_int (by rw [HV.out]), HB.out⟩
              · have hd : decide (m.nm ∈ namesOf (ms.take q)) = false := by simpa using hin
                rw [hd] at hlk
                obtain ⟨w2, hr2, hs2, hg2, hz2⟩ := HN.out.add m.nm hin
                have HN2 : Box (MapS w2 p (namesOf (ms.take (q + 1)))) := ⟨by rw [namesOf_take HX.out]; exact hs2⟩
                have HP2 : Box (MapS w2 (p + 1) (procsOf (ms.take q) ++ m.pr.take 0)) := ⟨by simpa using HP.out.kept hg2 (by simp)⟩
                have HB2 : Box (Below w.heap.size w w2) := ⟨HB.out.grown hg2 HB.out.size (fun z hz => by injection hz with hz; have := HWR.out; omega)⟩
                have HD2 : Box ((namesOf (ms.take (q + 1))).Nodup ∧ (procsOf (ms.take q) ++ m.pr.take 0).Nodup) := ⟨by rw [namesOf_take HX.out]; exact nodup_snoc HD.out.1 hin, by simpa using HD.out.2⟩
                clear hd hin hs2 hg2 hz2
                go_wp2_with fail
                clear hlk hr2
                go_loopw [8] (fun i wz => ∃ l : Nat, l ≤ n1 ∧ i = .int .i64 l ∧ Box (Below w.heap.size w wz) ∧ Box (MapS wz p (namesOf (ms.take (q + 1)))) ∧ Box (MapS wz (p + 1) (procsOf (ms.take q) ++ m.pr.take l)) ∧ Box ((namesOf (ms.take (q + 1))).Nodup ∧ (procsOf (ms.take q) ++ m.pr.take l).Nodup)) (fun i _ => n1 - (intOf i).toNat)
                case atStart => exact ⟨0, Nat.zero_le _, rfl, HB2, HN2, HP2, HD2⟩
                case round =>
                  clear HB2 HN2 HP2 HD2 HB HN HP HD h0 h2
                  obtain ⟨l, hl, rfl, HB, HN, HP, HD⟩ := hrel
                  have h2 := cellk HB.out HBB.out HH2.out
                  by_cases hlt4 : l < n1
                  · obtain ⟨b5, o5, x, rfl, hb5, hx5, hs5, hc5⟩ := HM.out.pr.str_at l hlt4
                    replace hc5 := cellk HB.out hb5 hc5
                    have HX5 := Box.mk hx5
                    have htk : Box (m.pr.take (l + 1) = m.pr.take l ++ [x]) := ⟨by rw [List.take_add_one, hx5]; rfl⟩
                    clear hx5
                    have hlk := HP.out.look x
                    by_cases hin : x ∈ procsOf (ms.take q) ++ m.pr.take l
                    · have hd : decide (x ∈ procsOf (ms.take q) ++ m.pr.take l) = true := by simpa using hin
                      rw [hd] at hlk
                      have HV : Box (vld ms = 5) := ⟨by simp [vld, HL.out, HRA.out, HFA.out, not_nodup_take (procsOf_split HX.out HX5.out) hin]⟩
                      clear hd hin
                      go_wp2_with fail
                      go_ret
                      exact ⟨ret_int (by rw [HV.out]), HB.out⟩
                    · have hd : decide (x ∈ procsOf (ms.take q) ++ m.pr.take l) = false := by simpa using hin
                      rw [hd] at hlk
                      obtain ⟨w2, hr2, hs2, hg2, hz2⟩ := HP.out.add x hin
                      have HP2 : Box (MapS w2 (p + 1) (procsOf (ms.take q) ++ m.pr.take (l + 1))) := ⟨by rw [htk.out, ← List.append_assoc]; exact hs2⟩
                      have HN2 : Box (MapS w2 p (namesOf (ms.take (q + 1)))) := ⟨HN.out.kept hg2 (by simp)⟩
                      have HB2 : Box (Below w.heap.size w w2) := ⟨HB.out.grown hg2 HB.out.size (fun z hz => by injection hz with hz; have := HWR.out; omega)⟩
                      have HD2 : Box ((namesOf (ms.take (q + 1))).Nodup ∧ (procsOf (ms.take q) ++ m.pr.take (l + 1)).Nodup) := ⟨HD.out.1, by rw [htk.out, ← List.append_assoc]; exact nodup_snoc HD.out.2 hin⟩
                      clear hd hin hs2 hg2 hz2
                      go_wp2_with fail
                      go_roundw
                      case rel => exact ⟨l + 1, by omega, by go_num, HB2, HN2, HP2, HD2⟩
                      case measure => simp [intOf]; omega
                  · obtain rfl : l = n1 := by omega
                    have e : m.pr.take l = m.pr := List.take_of_length_le (by rw [HM.out.pr.len]; exact Nat.le_refl _)
                    rw [e, ← procsOf_take HX.out] at HP HD
                    go_wp2_with fail
                    go_roundw
                    case rel => exact ⟨q + 1, by omega, by go_num, HB, HN, HP, HD⟩
                    case measure => simp [intOf]; omega
            · obtain rfl : q = j := by omega
              rw [List.take_of_length_le (by rw [H.out.len]; exact Nat.le_refl _)] at HD
              have HV : Box (vld ms = 0) := ⟨by simp [vld, HL.out, HRA.out, HFA.out, HD.out.1, HD.out.2]⟩
              go_wp2_with fail
              go_ret
              exact ⟨ret_int (by rw [HV.out]), HB.out⟩
end Go.Proofs.Ytchhjldopecliaa
namespace Go.Proofs.Ytchhjldopecliaa
open Go.RowKit

/-- A procedure of the reference. -/
def RPc : World → Pc → List Value → Prop := fun w p cs => ∃ A n c, cs = [.string p.nm, .int .i64 p.ov, .int .i64 p.sz, .slice A n c] ∧ p.nm.size ≤ LIM ∧ SlR w 1 RStr A n c p.cl
theorem mono_pc : Mono RPc := by
  rintro w w' p cs hb ⟨A, n, c, e, h1, h2⟩
  exact ⟨A, n, c, e, h1, h2.below mono_str hb⟩
theorem SlR.pc_at {w : World} {A : Option Addr} {n c : Nat} {xs : List Pc} (h : SlR w 4 RPc A n c xs) (k : Nat) (hk : k < n) :
    ∃ b off p A1 n1 c1, A = some ⟨b, off, none⟩ ∧ b < w.heap.size ∧ xs[k]? = some p ∧ p.nm.size ≤ LIM ∧ SlR w 1 RStr A1 n1 c1 p.cl ∧
      w.cell? ⟨b, off + k * 4, none⟩ = some (.string p.nm) ∧ w.cell? ⟨b, off + k * 4 + 1, none⟩ = some (.int .i64 p.ov) ∧ w.cell? ⟨b, off + k * 4 + 2, none⟩ = some (.int .i64 p.sz) ∧
      w.cell? ⟨b, off + k * 4 + 3, none⟩ = some (.slice A1 n1 c1) := by
  obtain ⟨b, off, p, cs, e, hlt, hx, hl, ⟨A1, n1, c1, rfl, h1, h2⟩, hc⟩ := h.at_ k hk
  exact ⟨b, off, p, A1, n1, c1, e, hlt, hx, h1, h2, by simpa using hc 0 _ rfl, hc 1 _ rfl, hc 2 _ rfl, hc 3 _ rfl⟩

theorem info_pc : (Try.prog.info? 72).map (fun i => (i.zero, i.size, i.bytes)) = some (some (.agg #[.string ByteArray.empty, .int .i64 0, .int .i64 0, .slice none 0 0]), 4, 56) := by kernel_rfl
theorem pc_zero_size : (Value.agg #[.string ByteArray.empty, .int .i64 0, .int .i64 0, .slice none 0 0]).cells.size = 4 := by kernel_rfl

set_option maxRecDepth 100000 in
set_option maxHeartbeats 4000000 in
theorem r_all (A : Option Addr) (n c : Nat) (ms : List Md) (w : World) (h : SlR w 5 RMd A n c ms) (hg : Good ms) :
    Calls Try.prog 59 #[.slice A n c] w fun e w' => ∃ A' c', e = .returned (.slice A' (prs ms).length c') ∧ SlR w' 4 RPc A' (prs ms).length c' (prs ms) ∧ Below w.heap.size w w' := by
  have hlim := h.lim
  have H := Box.mk h
  have HG := Box.mk hg
  clear h hg
  go_enter Try.func59, Try.ntmps59
  go_wp2_with fail
  go_loopw [3, 4, 5] (fun v i _ wr => ∃ k : Nat, k ≤ n ∧ i = .int .i64 k ∧ Box (Below w.heap.size w wr) ∧ Box (OwnL wr w w.heap.size 72 4 RPc v (prs (ms.take k)))) (fun _ i _ _ => n - (intOf i).toNat)
  case atStart => exact ⟨0, Nat.zero_le _, rfl, ⟨Below.refl _ _⟩, ⟨OwnL.nil⟩⟩
  case round =>
    obtain ⟨k, hk, rfl, HB, HO⟩ := hrel
    by_cases hlt : k < n
    · obtain ⟨b, off, m, A1, n1, c1, A2, n2, c2, A3, n3, c3, rfl, hb, hm, hM, h0, h1, h2, h3, h4⟩ := H.out.md_at k hlt
      have hfit := HG.out.fit (List.mem_iff_getElem?.2 ⟨k, hm⟩)
      rw [hM.pr.len, hM.sz.len, hM.cl.len] at hfit
      obtain ⟨e2, e3⟩ := hfit
      subst e2 e3
      have HM := Box.mk hM
      have HX := Box.mk hm
      have HC := Box.mk (And.intro hb (And.intro h1 (And.intro h2 (And.intro h3 h4))))
      have hl1 := hM.pr.lim
      have HT : Box (prs (ms.take (k + 1)) = prs (ms.take k) ++ prM m) := ⟨prs_take hm⟩
      have HLEN : Box ((prs (ms.take k)).length + n3 ≤ 100) := ⟨by
        have e1 := sumL_mono ms (k + 1)
        rw [sumL_take hm, hM.pr.len] at e1
        have := HG.out.total
        rw [prs_length]
        omega⟩
      clear hM hm hb h0 h1 h2 h3 h4
      go_wp2_with fail
      go_loopw [3, 5] (fun v i wx => ∃ j : Nat, j ≤ n3 ∧ i = .int .i64 j ∧ Box (Below w.heap.size w wx) ∧ Box (OwnL wx w w.heap.size 72 4 RPc v (prs (ms.take k) ++ (prM m).take j))) (fun _ i _ => n3 - (intOf i).toNat)
      case atStart => exact ⟨0, Nat.zero_le _, rfl, HB, ⟨by simpa using HO.out⟩⟩
      case round =>
        clear HB HO
        obtain ⟨j, hj, rfl, HB, HO⟩ := hrel
        obtain ⟨hb, h1, h2, h3, h4⟩ := HC.out
        replace h2 := cellk HB.out hb h2
        clear hb h1 h3 h4
        by_cases hjl : j < n3
        · obtain ⟨b5, o5, x, rfl, hb5, hx5, hs5, hc5⟩ := HM.out.pr.str_at j hjl
          obtain ⟨b6, o6, z, rfl, hb6, hx6, hc6⟩ := HM.out.sz.int_at j hjl
          obtain ⟨b7, o7, l, A7, n7, c7, rfl, hb7, hx7, hc7, hl7⟩ := HM.out.cl.sl_at j hjl
          have HS : Box (∀ W : World, Below w.heap.size w W → W.cell? ⟨b, off + k * 5 + 2, none⟩ = some (.slice (some ⟨b5, o5, none⟩) n3 c1) ∧ W.cell? ⟨b5, o5 + j, none⟩ = some (.string x) ∧ W.cell? ⟨b, off + k * 5 + 1, none⟩ = some (.int .i64 m.ov) ∧
            W.cell? ⟨b, off + k * 5 + 3, none⟩ = some (.slice (some ⟨b6, o6, none⟩) n3 c2) ∧ W.cell? ⟨b6, o6 + j, none⟩ = some (.int .i64 z) ∧ W.cell? ⟨b, off + k * 5 + 4, none⟩ = some (.slice (some ⟨b7, o7, none⟩) n3 c3) ∧ W.cell? ⟨b7, o7 + j, none⟩ = some (.slice A7 n7 c7)) := ⟨fun W hW => by
            obtain ⟨hb, h1, h2, h3, h4⟩ := HC.out
            exact ⟨cellk hW hb h2, cellk hW hb5 hc5, cellk hW hb h1, cellk hW hb h3, cellk hW hb6 hc6, cellk hW hb h4, cellk hW hb7 hc7⟩⟩
          clear hc5 hc6 hc7
          have hpc : Box (pcOf m j = ⟨x, m.ov, z, l⟩) := ⟨by unfold pcOf; rw [getD_some hx5, getD_some hx6, getD_some hx7]⟩
          have HL7 := Box.mk hl7
          have HS5 := Box.mk hs5
          have hjm : Box (j < m.pr.length) := ⟨by rw [HM.out.pr.len]; exact hjl⟩
          clear hx5 hx6 hx7 hl7 hs5
          have HBd : Box (Below w.heap.size w wr.drew) := ⟨⟨HB.out.os, HB.out.tape, HB.out.output, HB.out.size, HB.out.block⟩⟩
          have HOd : Box (OwnL wr.drew w w.heap.size 72 4 RPc u3 (prs (ms.take k) ++ (prM m).take j)) := HO
          obtain ⟨flat, ho, hP⟩ := HOd.out.opened
          have HFL := Box.mk ho
          have HPU := Box.mk hP
          have HLN : Box (((prs (ms.take k) ++ (prM m).take j).length + 1) * 56 ≤ 140737488355328) := ⟨by
            have := HLEN.out
            rw [List.length_append, List.length_take, prM_length]
            omega⟩
          clear ho hP
          go_upto_region 8 with fail
          go_region_held3 (fun W : World => W.cell? ⟨b, off + k * 5 + 2, none⟩ = some (.slice (some ⟨b5, o5, none⟩) n3 c1) ∧ W.cell? ⟨b5, o5 + j, none⟩ = some (.string x) ∧ W.cell? ⟨b, off + k * 5 + 1, none⟩ = some (.int .i64 m.ov) ∧
            W.cell? ⟨b, off + k * 5 + 3, none⟩ = some (.slice (some ⟨b6, o6, none⟩) n3 c2) ∧ W.cell? ⟨b6, o6 + j, none⟩ = some (.int .i64 z) ∧ W.cell? ⟨b, off + k * 5 + 4, none⟩ = some (.slice (some ⟨b7, o7, none⟩) n3 c3) ∧ W.cell? ⟨b7, o7 + j, none⟩ = some (.slice A7 n7 c7))
            (first | exact HS.out _ HBd.out | exact HS.out _ (bel_alloc2 HBd.out _) | exact HS.out _ HBa.out)
            (first | (refine step_app _ w.heap.size rfl _ _ 68 72 rfl (.agg #[.string ByteArray.empty, .int .i64 0, .int .i64 0, .slice none 0 0]) 4 56 Try.underlying68 info_pc pc_zero_size (by decide) (by decide) u3 _ flat rfl (HFL.out.alloc _) (some ⟨_, 0, none⟩) 1 1 [.string x, .int .i64 m.ov, .int .i64 z, .slice A7 n7 c7] rfl (src_new_at _ _ _ _ _ rfl rfl (by simp [Value.oneCell'])) HLN.out (Nat.le_trans HBd.out.size (bel_alloc _ _).size) ?_; intro v3' wa ho3 hg3' hat3; have hg3 := grown_al wr.drew hg3' rfl rfl rfl rfl; have HBa : Box (Below w.heap.size w wa) := ⟨HBd.out.grown hg3 HBd.out.size (fun q hq => (HOd.out.lt q hq).1)⟩; have HO3 := Box.mk ho3; clear ho3 hg3 hg3' hat3))
          have HP' : Box (OwnL wa w w.heap.size 72 4 RPc v3' (prs (ms.take k) ++ (prM m).take (j + 1))) := ⟨by
            rw [prM_take m j hjm.out, ← List.append_assoc, hpc.out]
            exact HPU.out wa v3' ⟨x, m.ov, z, l⟩ _ rfl ⟨A7, n7, c7, rfl, HS5.out, HL7.out⟩ HO3.out⟩
          go_wp2_with fail
          go_roundw
          case rel => exact ⟨j + 1, by omega, by go_num, HBa, HP'⟩
          case measure => simp [intOf]; omega
        · obtain rfl : j = n3 := by omega
          have e : (prM m).take j = prM m := List.take_of_length_le (by rw [prM_length, HM.out.pr.len]; exact Nat.le_refl _)
          rw [e, ← HT.out] at HO
          go_wp2_with fail
          go_roundw
          case rel => exact ⟨k + 1, by omega, by go_num, HB, HO⟩
          case measure => simp [intOf]; omega
    · obtain rfl : k = n := by omega
      rw [List.take_of_length_le (by rw [H.out.len]; exact Nat.le_refl _)] at HO
      obtain ⟨A', c', e', hs⟩ := HO.out.slr mono_pc HB.out (by have := HG.out.plen; rw [LIM_eq]; omega)
      have HS := Box.mk hs
      subst e'
      clear hs HO
      go_wp2_with fail
      go_ret
      exact ⟨_, _, rfl, HS.out, HB.out⟩
end Go.Proofs.Ytchhjldopecliaa
namespace Go.Proofs.Ytchhjldopecliaa
open Go.RowKit

/-- The number of a procedure, or -1. -/
def fdx (x : Str) (ps : List Pc) : Int := idxF (fun p => decide (p.nm = x)) ps 0
theorem idxF_ge {α : Type} (p : α → Bool) : ∀ (l : List α) (i : Nat), idxF p l i = -1 ∨ (i : Int) ≤ idxF p l i
  | [], i => .inl rfl
  | x :: r, i => by
    unfold idxF
    split
    · right; omega
    · rcases idxF_ge p r (i + 1) with h | h
      · exact .inl h
      · right; omega
theorem idxF_find {α : Type} (p : α → Bool) : ∀ (l : List α) (i : Nat), (idxF p l i = -1 ∧ l.find? p = none) ∨ ∃ k x, idxF p l i = ((i + k : Nat) : Int) ∧ l[k]? = some x ∧ l.find? p = some x
  | [], i => .inl ⟨rfl, rfl⟩
  | x :: r, i => by
    unfold idxF
    by_cases h : p x = true
    · right
      exact ⟨0, x, by simp [h], rfl, by simp [h]⟩
    · rcases idxF_find p r (i + 1) with ⟨h1, h2⟩ | ⟨k, y, h1, h2, h3⟩
      · left
        exact ⟨by simp [h, h1], by simp [h, h2]⟩
      · right
        refine ⟨k + 1, y, ?_, by simpa using h2, by simp [h, h3]⟩
        simp only [h, h1]
        simp
        omega
theorem fdx_spec (x : Str) (ps : List Pc) : (fdx x ps = -1 ∧ fnd x ps = none) ∨ ∃ (k : Nat) (p : Pc), fdx x ps = k ∧ ps[k]? = some p ∧ fnd x ps = some p := by
  rcases idxF_find (fun p : Pc => decide (p.nm = x)) ps 0 with ⟨h1, h2⟩ | ⟨k, p, h1, h2, h3⟩
  · exact .inl ⟨h1, h2⟩
  · refine .inr ⟨k, p, ?_, h2, h3⟩
    rw [fdx, h1]
    simp

set_option maxRecDepth 100000 in
set_option maxHeartbeats 1000000 in
theorem r_find (x : Str) (A : Option Addr) (n c : Nat) (ps : List Pc) (w : World) (h : SlR w 4 RPc A n c ps) :
    Calls Try.prog 52 #[.slice A n c, .string x] w fun e w' => e = .returned (.int .i64 (fdx x ps)) ∧ w = w' := by
  have hlim := h.lim
  have H := Box.mk h
  clear h
  go_enter Try.func52, Try.ntmps52
  go_wp2_with fail
  go_loop [5] (fun i => ∃ k : Nat, k ≤ n ∧ i = .int .i64 k ∧ Box (fdx x ps = idxF (fun p => decide (p.nm = x)) (ps.drop k) k)) (fun i => n - (intOf i).toNat)
  case atStart => exact ⟨0, Nat.zero_le _, rfl, ⟨by simp [fdx]⟩⟩
  case round =>
    obtain ⟨k, hk, rfl, HI⟩ := hrel
    by_cases hlt : k < n
    · obtain ⟨b, off, p, A1, n1, c1, rfl, hb, hp, _, _, h0, h1, h2, h3⟩ := H.out.pc_at k hlt
      have HX := Box.mk hp
      clear hp h1 h2 h3
      have hq : (ByteArray.toList p.nm == ByteArray.toList x) = decide (p.nm = x) := tleq p.nm x
      generalize hpx : decide (p.nm = x) = P at hq
      have HPX := Box.mk hpx
      clear hpx
      cases P
      · go_wp2_with fail
        go_round
        case rel => exact ⟨k + 1, by omega, by go_num, ⟨by rw [HI.out, idxF_drop HX.out, HPX.out]; rfl⟩⟩
        case measure => simp [intOf]; omega
      · go_wp2_with fail
        go_ret
        exact ⟨ret_int (by rw [HI.out, idxF_drop HX.out, HPX.out]; rfl), rfl⟩
    · go_wp2_with fail
      go_ret
      obtain rfl : k = n := by omega
      exact ⟨ret_int (by rw [HI.out, idxF_end (by rw [H.out.len]; exact Nat.le_refl _)]), rfl⟩
end Go.Proofs.Ytchhjldopecliaa
namespace Go.Proofs.Ytchhjldopecliaa
open Go.RowKit Go.Sort

/-- sort.Strings, of a row of one's own. -/
theorem c_SortStrings (base : Nat) (v : Value) (xs : List Str) (w : World) (h : w.ownsRow base 9 1 v xs.length (xs.map Value.string)) (hl : xs.length < 4611686018427387904) :
    Calls Try.prog 103 #[v] w fun e w' => e = .returned (.tuple #[]) ∧ w'.ownsRow base 9 1 v (srtS xs).length ((srtS xs).map Value.string) ∧ w.grownBy w' v.ownBlock := by
  rcases h.2 with ⟨rfl, hz⟩ | ⟨g, cap, cur, rfl, hbase, hg, r1, r2, r3, r4⟩
  · obtain rfl : xs = [] := List.eq_nil_of_length_eq_zero hz
    refine (Try.sort_Strings_none none 0 w).mono ?_
    rintro e w' ⟨rfl, rfl⟩
    rw [srtS_nil]
    exact ⟨rfl, h, World.grownBy.refl _ _⟩
  · have e1 : cur.toList.take (xs.map bs).length = (xs.map bs).map encStr := by rw [map_enc_bs, List.length_map]; simpa using r4
    have hH : Holds encStr w g 0 (xs.map bs).toArray := holds_of_block hg e1
    have hgl : g < w.heap.size := (Array.getElem?_eq_some_iff.1 hg).1
    have c := Try.sort_Strings g 0 cap (xs.map bs) w hH hgl (by simpa using hl)
    rw [List.length_map] at c
    refine c.mono ?_
    rintro e w' ⟨rfl, n, os, rfl⟩
    refine ⟨rfl, ?_, grownBy_sorted _⟩
    have := ownsRow_sorted (base := base) (n := n) (os := os) (ss := xs.map bs) (ts := sortB (xs.map bs)) (cap := cap) (by simp [sortB]) hbase hg (by simpa using r1) r2 r3
    rw [← bs_srtS, map_enc_bs, List.length_map, ← srtS_length] at this
    rw [srtS_length] at this ⊢
    rw [bs_srtS] at this
    exact this

/-- What stands behind k rounds. -/
def outK (zs : List By) (k : Nat) : List Str := ((List.range k).filter (Lib.keeps zs.toArray)).map (fun i => ob zs.toArray[i]!)
theorem outK_all (l : List Str) : outK (sortB (l.map bs)) (sortB (l.map bs)).length = setS l := by
  unfold outK setS
  rw [compact_get, List.map_map]
  rfl
theorem outK_succ {zs : List By} {k : Nat} {x : Str} (hx : (zs.map ob)[k]? = some x) : outK zs (k + 1) = outK zs k ++ (if Lib.keeps zs.toArray k then [x] else []) := by
  unfold outK
  rw [List.range_succ, List.filter_append, List.map_append]
  congr 1
  have h1 : zs[k]? = some (bs x) := by
    rw [List.getElem?_map] at hx
    cases h : zs[k]? with
    | none => rw [h] at hx; cases hx
    | some z =>
      rw [h] at hx
      have e : ob z = x := by simpa using hx
      rw [← e, bs_ob]
  have h2 : zs.toArray[k]! = bs x := by simp [h1]
  by_cases hk : Lib.keeps zs.toArray k = true
  · simp [hk, h1, ob_bs]
  · simp [hk]
theorem keeps_zero (zs : List By) : Lib.keeps zs.toArray 0 = true := Lib.keeps_lt_one _ 0 (by omega)
theorem keeps_succ {zs : List By} {q : Nat} {x y : Str} (hx : (zs.map ob)[q + 1]? = some x) (hy : (zs.map ob)[q]? = some y) : Lib.keeps zs.toArray (q + 1) = !decide (x = y) := by
  have key : ∀ (i : Nat) (z : Str), (zs.map ob)[i]? = some z → zs.toArray[i]! = bs z := by
    intro i z hz
    rw [List.getElem?_map] at hz
    cases h : zs[i]? with
    | none => rw [h] at hz; cases hz
    | some u =>
      rw [h] at hz
      have e : ob u = z := by simpa using hz
      simp [h, ← e, bs_ob]
  have h1 := key _ _ hx
  have h2 := key _ _ hy
  by_cases e : x = y
  · subst e
    rw [Lib.keeps_neg (by omega) (by rw [h1, Nat.add_sub_cancel, h2])]
    simp
  · have : zs.toArray[q + 1]! ≠ zs.toArray[q + 1 - 1]! := by
      rw [h1, Nat.add_sub_cancel, h2]
      exact fun h => e (bs_inj h)
    rw [Lib.keeps_pos this]
    simp [e]
theorem outK_length (zs : List By) (k : Nat) : (outK zs k).length ≤ k := by
  unfold outK
  rw [List.length_map]
  exact Nat.le_trans (List.length_filter_le ..) (by simp)
theorem outK_mem {zs : List By} {k : Nat} (hk : k ≤ zs.length) {s : Str} (h : s ∈ outK zs k) : s ∈ zs.map ob := by
  unfold outK at h
  obtain ⟨i, hi, rfl⟩ := List.mem_map.1 h
  have := List.mem_range.1 (List.mem_filter.1 hi).1
  have e : zs.toArray[i]! = zs[i] := by simp [show i < zs.length by omega]
  rw [e]
  exact List.mem_map_of_mem (List.getElem_mem _)

set_option maxRecDepth 100000 in
set_option maxHeartbeats 4000000 in
theorem r_set (A : Option Addr) (n c : Nat) (xs : List Str) (w : World) (h : SlR w 1 RStr A n c xs) (hs : ∀ x ∈ xs, x.size ≤ LIM) (hn : n ≤ 1000000) :
    Calls Try.prog 68 #[.slice A n c] w fun e w' => ∃ A' c', e = .returned (.slice A' (setS xs).length c') ∧ SlR w' 1 RStr A' (setS xs).length c' (setS xs) ∧ Below w.heap.size w w' := by
  have hlim := h.lim
  have H := Box.mk h
  have HS := Box.mk hs
  have hlen := h.len
  have HLE := Box.mk hlen
  clear h hs hlen
  go_enter Try.func68, Try.ntmps68
  go_upto_region 2 with (at_builtin; refine wpL_app _ w.heap.size rfl _ _ 23 9 rfl (.string ByteArray.empty) 1 16 Try.underlying23 info_str rfl (by decide) (by decide) (.slice none 0 0) 0 [] rfl (World.ownsRow_nil _ _ _ _) A n c (xs.map Value.string) rfl (src_strs H.out) (by omega) (Nat.le_refl _) ?_; intro v1 w1 ho1 hg1 hat1)
  rw [List.nil_append, Nat.zero_add, ← HLE.out] at ho1
  have HB1 : Box (Below w.heap.size w w1) := ⟨(Below.refl _ w).grown hg1 (Nat.le_refl _) (fun q hq => by cases hq)⟩
  have HO1 := Box.mk ho1
  clear ho1 hg1 hat1
  go_wp2_with fail
  refine (c_SortStrings w.heap.size v1 xs w1 HO1.out (by rw [HLE.out]; omega)).mono ?_
  rintro e w2 ⟨rfl, ho2, hg2⟩
  have HB2 := Box.mk (below_grown HB1.out (Nat.le_refl _) HB1.out.size HO1.out hg2)
  have hsl := srtS_length xs
  rw [HLE.out] at hsl
  obtain ⟨B, cb, e', hS⟩ := own_strs ho2 (fun x hx => HS.out x (mem_srtS.1 hx)) (by rw [hsl, LIM_eq]; omega)
  rw [hsl] at e' hS
  subst e'
  have HSR := Box.mk hS
  have HSL := Box.mk hsl
  have hwb : Box (w.heap.size ≤ w2.heap.size) := ⟨HB2.out.size⟩
  clear ho2 hg2 hS hsl HO1 HB1
  go_wp2_with fail
  obtain ⟨zs, hzs⟩ : ∃ zs, zs = sortB (xs.map bs) := ⟨_, rfl⟩
  have hzl : zs.length = n := by rw [hzs]; simp [sortB, HLE.out]
  have hall : outK zs n = setS xs := by rw [← hzl, hzs]; exact outK_all xs
  have hsrt : srtS xs = zs.map ob := by rw [hzs]; rfl
  have hmem : ∀ x ∈ zs.map ob, x.size ≤ LIM := fun x hx => HS.out x (mem_srtS.1 (by rw [hsrt]; exact hx))
  rw [hsrt] at HSR
  have HZL := Box.mk hzl
  have HALL := Box.mk hall
  have HMEM := Box.mk hmem
  clear hzs hzl hall hsrt hmem HS HSL
  go_loopw [3, 4] (fun v i wr => ∃ k : Nat, k ≤ n ∧ i = .int .i64 k ∧ Box (Below w2.heap.size w2 wr) ∧ Box (wr.ownsRow w2.heap.size 9 1 v (outK zs k).length ((outK zs k).map Value.string))) (fun _ i _ => n - (intOf i).toNat)
  case atStart => exact ⟨0, Nat.zero_le _, rfl, ⟨Below.refl _ _⟩, ⟨World.ownsRow_nil _ _ _ _⟩⟩
  case round =>
    obtain ⟨k, hk, rfl, HB, HO⟩ := hrel
    by_cases hlt : k < n
    · obtain ⟨b, off, x, rfl, hb, hx, hs, hc⟩ := HSR.out.str_at k hlt
      replace hc := cellk HB.out hb hc
      have HX := Box.mk hx
      have hol : Box ((outK zs k).length ≤ k) := ⟨outK_length zs k⟩
      have hlk := hol.out
      clear hs
      cases k with
      | zero =>
        rw [Nat.add_zero] at hc
        have hkp : Box (outK zs 1 = outK zs 0 ++ [x]) := ⟨by rw [outK_succ hx, keeps_zero]; rfl⟩
        clear hx
        go_upto_region 7 with fail
        go_quiet (fail)
        have HBq : Box (Below w2.heap.size w2 (wr.drewN nq)) := ⟨⟨HB.out.os, HB.out.tape, HB.out.output, HB.out.size, HB.out.block⟩⟩
        have HOq : Box ((wr.drewN nq).ownsRow w2.heap.size 9 1 u3 (outK zs 0).length ((outK zs 0).map Value.string)) := ⟨HO.out⟩
        have hcq : (wr.drewN nq).cell? ⟨b, off, none⟩ = some (.string x) := hc
        generalize wr.drewN nq = wq at *
        go_wp2_with (at_builtin; refine wpL_app _ w2.heap.size rfl _ _ 23 9 rfl (.string ByteArray.empty) 1 16 Try.underlying23 info_str rfl (by decide) (by decide) u3 _ _ rfl (HOq.out.alloc _) (some ⟨_, 0, none⟩) 1 1 [.string x] rfl (src_at _ _ _ _ (by simp) rfl) (by omega) (Nat.le_trans HBq.out.size (bel_alloc _ _).size) ?_; intro v3' wa ho3 hg3' hat3)
        have hg3 := grown_al wq hg3' rfl rfl rfl rfl
        have HBa : Box (Below w2.heap.size w2 wa) := ⟨HBq.out.grown hg3 HBq.out.size (fun q hq => (HOq.out.lt q hq).1)⟩
        have HO3 : Box (wa.ownsRow w2.heap.size 9 1 v3' (outK zs 1).length ((outK zs 1).map Value.string)) := ⟨by rw [hkp.out, List.map_append, List.length_append]; exact ho3⟩
        clear hg3 hg3' ho3 hat3
        go_roundw
        case rel => exact ⟨1, by omega, by go_num, HBa, HO3⟩
        case measure => simp [intOf]; omega
      | succ q =>
        obtain ⟨b', off', y, e', hb', hy, _, hcy⟩ := HSR.out.str_at q (by omega)
        injection e' with e'
        injection e' with e1 e2
        subst e1 e2
        replace hcy := cellk HB.out hb' hcy
        have hkp : Box (outK zs (q + 1 + 1) = outK zs (q + 1) ++ (if !decide (x = y) then [x] else [])) := ⟨by rw [outK_succ hx, keeps_succ hx hy]⟩
        have hq : (ByteArray.toList x == ByteArray.toList y) = decide (x = y) := tleq x y
        generalize decide (x = y) = P at hkp hq
        clear hx hy
        have HQ := Box.mk hq
        have hnz : (((q : Int) + 1) == 0) = false := by simp; omega
        have hw64 : wrap64 ((q : Int) + 1 - 1) = q := by unfold wrap64; omega
        cases P
        case false =>
          go_upto_region 7 with fail
          go_quiet (fail)
          have HBq : Box (Below w2.heap.size w2 (wr.drewN nq)) := ⟨⟨HB.out.os, HB.out.tape, HB.out.output, HB.out.size, HB.out.block⟩⟩
          have HOq : Box ((wr.drewN nq).ownsRow w2.heap.size 9 1 u3 (outK zs (q + 1)).length ((outK zs (q + 1)).map Value.string)) := ⟨HO.out⟩
          have hcq : (wr.drewN nq).cell? ⟨b, off + (q + 1), none⟩ = some (.string x) := hc
          generalize wr.drewN nq = wq at *
          go_wp2_with (at_builtin; refine wpL_app _ w2.heap.size rfl _ _ 23 9 rfl (.string ByteArray.empty) 1 16 Try.underlying23 info_str rfl (by decide) (by decide) u3 _ _ rfl (HOq.out.alloc _) (some ⟨_, 0, none⟩) 1 1 [.string x] rfl (src_at _ _ _ _ (by simp) rfl) (by omega) (Nat.le_trans HBq.out.size (bel_alloc _ _).size) ?_; intro v3' wa ho3 hg3' hat3)
          have hg3 := grown_al wq hg3' rfl rfl rfl rfl
          have HBa : Box (Below w2.heap.size w2 wa) := ⟨HBq.out.grown hg3 HBq.out.size (fun q hq => (HOq.out.lt q hq).1)⟩
          have HO3 : Box (wa.ownsRow w2.heap.size 9 1 v3' (outK zs (q + 1 + 1)).length ((outK zs (q + 1 + 1)).map Value.string)) := ⟨by rw [hkp.out, List.map_append, List.length_append]; exact ho3⟩
          clear hg3 hg3' ho3 hat3
          go_roundw
          case rel => exact ⟨q + 1 + 1, by omega, by go_num, HBa, HO3⟩
          case measure => simp [intOf]; omega
        case true =>
          go_upto_region 7 with fail
          go_quiet (fail)
          have HBq : Box (Below w2.heap.size w2 (wr.drewN nq)) := ⟨⟨HB.out.os, HB.out.tape, HB.out.output, HB.out.size, HB.out.block⟩⟩
          have HOq : Box ((wr.drewN nq).ownsRow w2.heap.size 9 1 u3 (outK zs (q + 1 + 1)).length ((outK zs (q + 1 + 1)).map Value.string)) := ⟨by
            have e : outK zs (q + 1 + 1) = outK zs (q + 1) := by rw [hkp.out]; simp
            rw [e]
            exact HO.out⟩
          generalize wr.drewN nq = wq at *
          go_wp2_with fail
          go_roundw
          case rel => exact ⟨q + 1 + 1, by omega, by go_num, HBq, HOq⟩
          case measure => simp [intOf]; omega
    · obtain rfl : k = n := by omega
      rw [HALL.out] at HO
      obtain ⟨B', c', e', hS⟩ := own_strs HO.out (fun x hx => HMEM.out x (outK_mem (k := k) (by rw [HZL.out]; exact Nat.le_refl _) (by rw [HALL.out]; exact hx))) (by have := outK_length zs k; rw [HALL.out] at this; rw [LIM_eq]; omega)
      have HSS := Box.mk hS
      subst e'
      clear hS HO
      go_wp2_with fail
      go_ret
      exact ⟨_, _, rfl, HSS.out, below_tr HB2.out HB2.out.size HB.out⟩
end Go.Proofs.Ytchhjldopecliaa
namespace Go.Proofs.Ytchhjldopecliaa
open Go.RowKit

theorem called_take {ps : List Pc} {k : Nat} {p : Pc} (h : ps[k]? = some p) : called (ps.take (k + 1)) = called (ps.take k) ++ p.cl := by
  unfold called
  rw [List.take_add_one, h]
  simp
theorem called_len {ps : List Pc} (hc : ∀ p ∈ ps, p.cl.length ≤ 100) (k : Nat) : (called (ps.take k)).length ≤ k * 100 := by
  have : ∀ l : List Pc, (∀ p ∈ l, p.cl.length ≤ 100) → (called l).length ≤ l.length * 100 := by
    intro l
    induction l with
    | nil => intro _; simp [called]
    | cons x r ih =>
      intro hl
      have h1 := ih (fun m hm => hl m (List.mem_cons_of_mem _ hm))
      have h2 := hl x (List.mem_cons_self ..)
      unfold called at h1 ⊢
      rw [List.flatMap_cons, List.length_append, List.length_cons]
      omega
  have h1 := this (ps.take k) (fun m hm => hc m (List.mem_of_mem_take hm))
  have h2 : (ps.take k).length ≤ k := List.length_take_le ..
  omega
def lack (ps : List Pc) (l : List Str) : List Str := l.filter (fun s => (fnd s ps).isNone)
theorem lack_snoc (ps : List Pc) (l : List Str) (x : Str) : lack ps (l ++ [x]) = lack ps l ++ (if (fnd x ps).isNone then [x] else []) := by
  unfold lack
  rw [List.filter_append]
  congr 1
  cases h : (fnd x ps).isNone <;> simp [h]
theorem lack_len (ps : List Pc) (l : List Str) : (lack ps l).length ≤ l.length := List.length_filter_le ..

set_option maxRecDepth 100000 in
set_option maxHeartbeats 4000000 in
theorem r_missing (A : Option Addr) (n c : Nat) (ms : List Md) (w : World) (h : SlR w 5 RMd A n c ms) (hg : Good ms) :
    Calls Try.prog 55 #[.slice A n c] w fun e w' => ∃ A' c', e = .returned (.slice A' (missS (prs ms)).length c') ∧ SlR w' 1 RStr A' (missS (prs ms)).length c' (missS (prs ms)) ∧ Below w.heap.size w w' := by
  have H := Box.mk h
  have HG := Box.mk hg
  have hpl := hg.plen
  have HCL : Box (∀ p ∈ prs ms, p.cl.length ≤ 100) := ⟨fun p hp => hg.pcalls hp⟩
  have C := Box.mk (r_all A n c ms w H.out HG.out)
  clear h hg
  generalize prs ms = ps at *
  go_enter Try.func55, Try.ntmps55
  go_wp2_with fail
  refine C.out.mono ?_
  rintro e w1 ⟨B, cb, rfl, hp, hb1⟩
  have HP := Box.mk hp
  have HB1 := Box.mk hb1
  clear hp hb1
  clear C
  obtain ⟨np, hnp⟩ : ∃ np, np = ps.length := ⟨_, rfl⟩
  rw [← hnp] at HP hpl
  rw [← hnp]
  have HNP := Box.mk hnp
  clear hnp
  go_wp2_with fail
  go_loopw [4, 5, 6] (fun v i _ wr => ∃ k : Nat, k ≤ np ∧ i = .int .i64 k ∧ Box (Below w1.heap.size w1 wr) ∧ Box (wr.ownsRow w1.heap.size 9 1 v (lack ps (called (ps.take k))).length ((lack ps (called (ps.take k))).map Value.string))) (fun _ i _ _ => np - (intOf i).toNat)
  case atStart => exact ⟨0, Nat.zero_le _, rfl, ⟨Below.refl _ _⟩, ⟨World.ownsRow_nil _ _ _ _⟩⟩
  case round =>
    obtain ⟨k, hk, rfl, HB, HO⟩ := hrel
    by_cases hlt : k < np
    · obtain ⟨b, off, p, A1, n1, c1, rfl, hb, hx, hnm, hcl, h0, h1, h2, h3⟩ := HP.out.pc_at k hlt
      have HX := Box.mk hx
      have HC := Box.mk hcl
      have H3 := Box.mk (And.intro hb h3)
      have hl1 := hcl.lim
      have hn1 : n1 ≤ 100 := by rw [← hcl.len]; exact HCL.out p (List.mem_iff_getElem?.2 ⟨k, hx⟩)
      have HT := Box.mk (called_take hx)
      have hck := called_len HCL.out k
      clear hx hcl hb h0 h1 h2 h3
      go_wp2_with fail
      go_loopw [4, 6] (fun v i wx => ∃ j : Nat, j ≤ n1 ∧ i = .int .i64 j ∧ Box (Below w1.heap.size w1 wx) ∧ Box (wx.ownsRow w1.heap.size 9 1 v (lack ps (called (ps.take k) ++ p.cl.take j)).length ((lack ps (called (ps.take k) ++ p.cl.take j)).map Value.string))) (fun _ i _ => n1 - (intOf i).toNat)
      case atStart => exact ⟨0, Nat.zero_le _, rfl, HB, ⟨by simpa using HO.out⟩⟩
      case round =>
        clear HB HO
        obtain ⟨j, hj, rfl, HB, HO⟩ := hrel
        have h3 := cellk HB.out H3.out.1 H3.out.2
        by_cases hjl : j < n1
        · obtain ⟨b5, o5, x, rfl, hb5, hx5, hs5, hc5⟩ := HC.out.str_at j hjl
          replace hc5 := cellk HB.out hb5 hc5
          have htk : Box (called (ps.take k) ++ p.cl.take (j + 1) = (called (ps.take k) ++ p.cl.take j) ++ [x]) := ⟨by rw [List.take_add_one, hx5]; simp⟩
          have hll : (lack ps (called (ps.take k) ++ p.cl.take j)).length ≤ 11000 := by
            have e1 := lack_len ps (called (ps.take k) ++ p.cl.take j)
            have e2 : (p.cl.take j).length ≤ j := List.length_take_le ..
            rw [List.length_append] at e1
            omega
          clear hx5 hs5
          go_wp2_with fail
          refine (r_find x _ np cb ps wr (HP.out.below mono_pc HB.out)).mono ?_
          rintro e w3 ⟨rfl, rfl⟩
          rcases fdx_spec x ps with ⟨hf1, hf2⟩ | ⟨q, p2, hf1, hf2, hf3⟩
          · rw [hf1]
            have hsn : Box (lack ps (called (ps.take k) ++ p.cl.take (j + 1)) = lack ps (called (ps.take k) ++ p.cl.take j) ++ [x]) := ⟨by rw [htk.out, lack_snoc, hf2]; rfl⟩
            clear hf1 hf2
            go_wp2_with (at_builtin; refine wpL_app _ w1.heap.size rfl _ _ 23 9 rfl (.string ByteArray.empty) 1 16 Try.underlying23 info_str rfl (by decide) (by decide) u4 _ _ rfl (HO.out.alloc _) (some ⟨_, 0, none⟩) 1 1 [.string x] rfl (src_at _ _ _ _ (by simp) rfl) (by omega) (Nat.le_trans HB.out.size (bel_alloc _ _).size) ?_; intro v3' wa ho3 hg3' hat3)
            have hg3 := grown_al wr hg3' rfl rfl rfl rfl
            have HBa : Box (Below w1.heap.size w1 wa) := ⟨HB.out.grown hg3 HB.out.size (fun q hq => (HO.out.lt q hq).1)⟩
            have HO3 : Box (wa.ownsRow w1.heap.size 9 1 v3' (lack ps (called (ps.take k) ++ p.cl.take (j + 1))).length ((lack ps (called (ps.take k) ++ p.cl.take (j + 1))).map Value.string)) := ⟨by rw [hsn.out, List.map_append, List.length_append]; exact ho3⟩
            clear hg3 hg3' ho3 hat3
            go_roundw
            case rel => exact ⟨j + 1, by omega, by go_num, HBa, HO3⟩
            case measure => simp [intOf]; omega
          · rw [hf1]
            have hsn : lack ps (called (ps.take k) ++ p.cl.take (j + 1)) = lack ps (called (ps.take k) ++ p.cl.take j) := by rw [htk.out, lack_snoc, hf3]; simp
            rw [← hsn] at HO
            clear hf1 hf2 hf3 hsn hll
            go_wp2_with fail
            go_roundw
            case rel => exact ⟨j + 1, by omega, by go_num, HB, HO⟩
            case measure => simp [intOf]; omega
        · obtain rfl : j = n1 := by omega
          have e : p.cl.take j = p.cl := List.take_of_length_le (by rw [HC.out.len]; exact Nat.le_refl _)
          rw [e, ← HT.out] at HO
          clear e
          go_wp2_with fail
          go_roundw
          case rel => exact ⟨k + 1, by omega, by go_num, HB, HO⟩
          case measure => simp [intOf]; omega
    · obtain rfl : k = np := by omega
      have e : ps.take k = ps := List.take_of_length_le (by rw [← HNP.out]; exact Nat.le_refl _)
      have hck := called_len HCL.out k
      rw [e] at HO hck
      clear e
      have hml : lack ps (called ps) = missL ps := rfl
      rw [hml] at HO
      have hmn : (missL ps).length ≤ 10000 := by have := lack_len ps (called ps); rw [hml] at this; omega
      have hsz : ∀ x ∈ missL ps, x.size ≤ LIM := by
        intro x hx
        obtain ⟨⟨p, hp, hxp⟩, _⟩ := mem_missL.1 hx
        obtain ⟨i, hi⟩ := List.mem_iff_getElem?.1 hp
        have hil := (List.getElem?_eq_some_iff.1 hi).1
        obtain ⟨b, off, p', A1, n1, c1, rfl, hb, hx', hnm, hcl, _⟩ := HP.out.pc_at i (by rw [HNP.out]; exact hil)
        rw [hi] at hx'
        injection hx' with hx'
        subst hx'
        obtain ⟨j, hj⟩ := List.mem_iff_getElem?.1 hxp
        have hjl := (List.getElem?_eq_some_iff.1 hj).1
        rw [hcl.len] at hjl
        obtain ⟨b5, o5, x', rfl, hb5, hx5, hs5, _⟩ := hcl.str_at j hjl
        rw [hj] at hx5
        injection hx5 with hx5
        subst hx5
        exact hs5
      obtain ⟨B', c', e', hS⟩ := own_strs HO.out hsz (by rw [LIM_eq]; omega)
      have HSS := Box.mk hS
      have HSZ := Box.mk hsz
      subst e'
      clear hS hsz HO hml
      go_wp2_with fail
      refine (r_set B' _ c' (missL ps) wr HSS.out HSZ.out (by omega)).mono ?_
      rintro e w4 ⟨A', c'', rfl, hs4, hb4⟩
      have HS4 := Box.mk hs4
      have HB4 := Box.mk (below_tr (below_tr HB1.out HB1.out.size HB.out) (by have := HB1.out.size; have := HB.out.size; omega) hb4)
      clear hs4 hb4
      go_wp2_with fail
      go_ret
      exact ⟨_, _, rfl, HS4.out, HB4.out⟩
end Go.Proofs.Ytchhjldopecliaa
namespace Go.Proofs.Ytchhjldopecliaa
open Go.RowKit

set_option maxHeartbeats 1000000 in
theorem r_whole (A : Option Addr) (n c : Nat) (ms : List Md) (w : World) (h : SlR w 5 RMd A n c ms) :
    Calls Try.prog 63 #[.slice A n c] w fun e w' => e = .returned (.int .i64 (opn ms)) ∧ Below w.heap.size w w' := by
  have H := Box.mk h
  clear h
  go_enter Try.func63, Try.ntmps63
  go_wp2_with fail
  refine (r_Validate A n c ms w H.out).mono ?_
  rintro e w1 ⟨rfl, hb1⟩
  have HB1 := Box.mk hb1
  clear hb1
  generalize hv : vld ms = V
  by_cases h0 : V = 0
  · subst h0
    have HG := Box.mk (vld_good hv)
    have HV := Box.mk hv
    clear hv
    go_wp2_with fail
    refine (r_missing A n c ms w1 (H.out.below mono_md HB1.out) HG.out).mono ?_
    rintro e w2 ⟨A', c', rfl, hs, hb2⟩
    have HB2 := Box.mk (below_tr HB1.out HB1.out.size hb2)
    have hl := hs.lim
    clear hs hb2
    have HO : Box (opn ms = if 0 < (missS (prs ms)).length then 4 else 0) := ⟨by simp [opn, HV.out]⟩
    generalize (missS (prs ms)).length = q at *
    by_cases hq : 0 < q
    · go_wp2_with fail
      go_ret
      exact ⟨ret_int (by rw [HO.out, if_pos hq]), HB2.out⟩
    · go_wp2_with fail
      go_ret
      exact ⟨ret_int (by rw [HO.out, if_neg hq]), HB2.out⟩
  · have HO : Box (opn ms = V) := ⟨by simp [opn, hv, h0]⟩
    have h0' : (V != 0) = true := by simpa using h0
    clear hv
    go_wp2_with fail
    go_ret
    exact ⟨ret_int (by rw [HO.out]), HB1.out⟩

theorem ret3i {v u : Value} {a b : Int} (h : a = b) : Ending.returned (.tuple #[v, u, .int .i64 a]) = .returned (.tuple #[v, u, .int .i64 b]) := by rw [h]

/-- What from hands on when it tells no error. -/
def FromOk (w' : World) (ms : List Md) (x : Str) (v : Value) (k : Int) : Prop :=
  opn ms = 0 ∧ Good ms ∧ ∃ (p : Pc) (A' : Option Addr) (c' : Nat), k = fdx x (prs ms) ∧ fnd x (prs ms) = some p ∧ v = .slice A' (prs ms).length c' ∧ SlR w' 4 RPc A' (prs ms).length c' (prs ms)

set_option maxHeartbeats 1000000 in
theorem r_from (A : Option Addr) (n c : Nat) (ms : List Md) (x : Str) (w : World) (h : SlR w 5 RMd A n c ms) :
    Calls Try.prog 51 #[.slice A n c, .string x] w fun e w' => (∃ v k, e = .returned (.tuple #[v, .int .i64 k, .int .i64 (opf ms x)]) ∧ (opf ms x = 0 → FromOk w' ms x v k)) ∧ Below w.heap.size w w' := by
  have H := Box.mk h
  clear h
  go_enter Try.func51, Try.ntmps51
  go_wp2_with fail
  refine (r_whole A n c ms w H.out).mono ?_
  rintro e w1 ⟨rfl, hb1⟩
  have HB1 := Box.mk hb1
  clear hb1
  generalize ho : opn ms = V
  by_cases h0 : V = 0
  · subst h0
    have HV := Box.mk ho
    have HG : Box (Good ms) := ⟨by
      apply vld_good
      unfold opn at ho
      by_cases hz : vld ms = 0
      · exact hz
      · rw [if_pos hz] at ho; exact ho⟩
    have HO : Box (opf ms x = if fnd x (prs ms) = none then 4 else 0) := ⟨by simp [opf, ho]⟩
    clear ho
    go_wp2_with fail
    refine (r_all A n c ms w1 (H.out.below mono_md HB1.out) HG.out).mono ?_
    rintro e w2 ⟨B, cb, rfl, hp, hb2⟩
    have HP := Box.mk hp
    have HB2 := Box.mk (below_tr HB1.out HB1.out.size hb2)
    have hl := hp.lim
    clear hp hb2
    go_wp2_with fail
    refine (r_find x B _ cb (prs ms) w2 HP.out).mono ?_
    rintro e w3 ⟨rfl, rfl⟩
    rcases fdx_spec x (prs ms) with ⟨hf1, hf2⟩ | ⟨q, p2, hf1, hf2, hf3⟩
    · rw [hf1]
      have HF : Box (opf ms x = 4) := ⟨by rw [HO.out, hf2, if_pos rfl]⟩
      clear hf1 hf2
      go_wp2_with fail
      go_ret3
      exact ⟨⟨_, _, ret3i (by rw [HF.out]), fun h => by rw [HF.out] at h; cases h⟩, HB2.out⟩
    · have HK1 := Box.mk hf1
      rw [hf1]
      have HF : Box (opf ms x = 0) := ⟨by rw [HO.out, hf3, if_neg (by simp)]⟩
      have HK : Box ((prs ms)[q]? = some p2 ∧ fnd x (prs ms) = some p2) := ⟨hf2, hf3⟩
      have hq2 : q < (prs ms).length := (List.getElem?_eq_some_iff.1 hf2).1
      clear hf1 hf2 hf3
      go_wp2_with fail
      go_ret3
      exact ⟨⟨_, _, ret3i (by rw [HF.out]), fun _ => ⟨HV.out, HG.out, p2, B, cb, HK1.out.symm, HK.out.2, rfl, HP.out⟩⟩, HB2.out⟩
  · have HO : Box (opf ms x = V) := ⟨by simp [opf, ho, h0]⟩
    have HN := Box.mk h0
    have h0' : (V != 0) = true := by simpa using h0
    clear ho
    go_wp2_with fail
    go_ret3
    exact ⟨⟨_, _, ret3i (by rw [HO.out]), fun h => absurd (HO.out ▸ h) HN.out⟩, HB1.out⟩
end Go.Proofs.Ytchhjldopecliaa
