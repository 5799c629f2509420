/-
The arguments of this seat's laws, read as the walks speak of them. No conditions.
-/
import Derived.Test.YtchhjldopecliaaProg
import Derived.Test.YtchhjldopecliaaB5
namespace Go.Proofs.Ytchhjldopecliaa
open Go.RowKit

section
variable {H : Type} {enc : TypeId × Value → H} {w : World} {spare : Nat → Bool} {held : Bool}

theorem cells9 : Try.prog.cellsOf 9 = 1 := by kernel_rfl
theorem cells3 : Try.prog.cellsOf 3 = 1 := by kernel_rfl
theorem cells23 : Try.prog.cellsOf 23 = 1 := by kernel_rfl
theorem cells30 : Try.prog.cellsOf 30 = 1 := by kernel_rfl
theorem cells31 : Try.prog.cellsOf 31 = 1 := by kernel_rfl
theorem cells33 : Try.prog.cellsOf 33 = 5 := by kernel_rfl
theorem bytes9 : Try.prog.bytesOf 9 = 16 := by kernel_rfl
theorem bytes3 : Try.prog.bytesOf 3 = 8 := by kernel_rfl
theorem bytes23 : Try.prog.bytesOf 23 = 24 := by kernel_rfl
theorem bytes33 : Try.prog.bytesOf 33 = 96 := by kernel_rfl

theorem op_strs {fuel : Nat} {cs : List Value} {d : DataW H} {ps : List MemPlace} (h : DataW.trod enc Try.prog w 0 spare held fuel 23 cs = some (d, ps)) (hw : Okw Try.prog 23 d) : ∃ xs, RSl 1 RStr w xs cs :=
  op_sl Try.underlying23 cells9 (by decide) (by rw [bytes9]; decide) (fun _ _ _ _ _ h hw => op_str Try.underlying9 h hw) h hw
theorem op_ints {fuel : Nat} {cs : List Value} {d : DataW H} {ps : List MemPlace} (h : DataW.trod enc Try.prog w 0 spare held fuel 30 cs = some (d, ps)) (hw : Okw Try.prog 30 d) : ∃ xs, RSl 1 RInt w xs cs :=
  op_sl Try.underlying30 cells3 (by decide) (by rw [bytes3]; decide) (fun _ _ _ _ _ h _ => op_int Try.underlying3 h) h hw
theorem op_strss {fuel : Nat} {cs : List Value} {d : DataW H} {ps : List MemPlace} (h : DataW.trod enc Try.prog w 0 spare held fuel 31 cs = some (d, ps)) (hw : Okw Try.prog 31 d) : ∃ xs, RSl 1 (RSl 1 RStr) w xs cs :=
  op_sl Try.underlying31 cells23 (by decide) (by rw [bytes23]; decide) (fun _ _ _ _ _ h hw => op_strs h hw) h hw

set_option maxRecDepth 100000 in
theorem op_md {fuel : Nat} {cs : List Value} {d : DataW H} {ps : List MemPlace} (hl : cs.length = 5) (h : DataW.trod enc Try.prog w 0 spare held fuel 33 cs = some (d, ps)) (hw : Okw Try.prog 33 d) : ∃ m, RMd w m cs := by
  obtain ⟨xs, n, _, hx, _, hxl, hf⟩ := DataW.trod_struct Try.underlying33 h
  injection hx with hx _
  subst hx
  match cs, hl with
  | [c0, c1, c2, c3, c4], _ =>
    have hxl5 : xs.length = 5 := hxl
    match xs, hxl5 with
    | [x0, x1, x2, x3, x4], _ =>
      have g0 : DataW.trod enc Try.prog w 0 spare held n 9 (([c0, c1, c2, c3, c4].drop 0).take (Try.prog.cellsOf 9)) = some x0 := hf 0 _ rfl
      have g1 : DataW.trod enc Try.prog w 0 spare held n 3 (([c0, c1, c2, c3, c4].drop 1).take (Try.prog.cellsOf 3)) = some x1 := hf 1 _ rfl
      have g2 : DataW.trod enc Try.prog w 0 spare held n 23 (([c0, c1, c2, c3, c4].drop 2).take (Try.prog.cellsOf 23)) = some x2 := hf 2 _ rfl
      have g3 : DataW.trod enc Try.prog w 0 spare held n 30 (([c0, c1, c2, c3, c4].drop 3).take (Try.prog.cellsOf 30)) = some x3 := hf 3 _ rfl
      have g4 : DataW.trod enc Try.prog w 0 spare held n 31 (([c0, c1, c2, c3, c4].drop 4).take (Try.prog.cellsOf 31)) = some x4 := hf 4 _ rfl
      simp only [cells9, cells3, cells23, cells30, cells31, List.drop_zero, List.drop_succ_cons, List.take_succ_cons, List.take_zero] at g0 g1 g2 g3 g4
      have hwf : ∀ (j : Nat) (t : TypeId) (y : DataW H × List MemPlace), ([9, 3, 23, 30, 31] : List TypeId)[j]? = some t → [x0, x1, x2, x3, x4][j]? = some y → Okw Try.prog t y.1 := by
        intro j t y ht hy q hq
        refine hw q ?_
        simp only [DataW.weights, Try.underlying33]
        refine DataW.weights_mem_each (j := j) (t := t) (d := y.1) ht ?_ q hq
        rw [List.getElem?_map, hy]
        rfl
      obtain ⟨s, hs⟩ := op_str (d := x0.1) (ps := x0.2) Try.underlying9 g0 (hwf 0 9 x0 rfl rfl)
      obtain ⟨o, ho⟩ := op_int (d := x1.1) (ps := x1.2) Try.underlying3 g1
      obtain ⟨l2, A2, n2, k2, e2, s2⟩ := op_strs (d := x2.1) (ps := x2.2) g2 (hwf 2 23 x2 rfl rfl)
      obtain ⟨l3, A3, n3, k3, e3, s3⟩ := op_ints (d := x3.1) (ps := x3.2) g3 (hwf 3 30 x3 rfl rfl)
      obtain ⟨l4, A4, n4, k4, e4, s4⟩ := op_strss (d := x4.1) (ps := x4.2) g4 (hwf 4 31 x4 rfl rfl)
      obtain ⟨e0, h0⟩ := hs
      have ho : [c1] = [Value.int .i64 o] := ho
      simp only [List.cons.injEq, and_true] at e0 ho e2 e3 e4
      subst e0 ho e2 e3 e4
      exact ⟨⟨s, o, l2, l3, l4⟩, _, _, _, _, _, _, _, _, _, rfl, h0, s2, s3, s4⟩
theorem op_mds {fuel : Nat} {cs : List Value} {d : DataW H} {ps : List MemPlace} (h : DataW.trod enc Try.prog w 0 spare held fuel 22 cs = some (d, ps)) (hw : Okw Try.prog 22 d) : ∃ ms, RSl 5 RMd w ms cs :=
  op_sl Try.underlying22 cells33 (by decide) (by rw [bytes33]; decide) (fun _ _ _ _ hl h hw => op_md hl h hw) h hw

theorem okw_arg {ts : List TypeId} {ds : List (DataW H)} (h : (DataW.weightsEach Try.prog ts ds).all (· ≤ reachBytes) = true) {j : Nat} {t : TypeId} {d : DataW H} (ht : ts[j]? = some t) (hd : ds[j]? = some d) : Okw Try.prog t d := by
  intro n hn
  have := List.all_eq_true.1 h _ (DataW.weights_mem_each ht hd n hn)
  rw [← lim_reach]
  simpa using this

/-- A parameter of modules. -/
theorem arg_mds {a : Option Addr} {n c : Nat} {d : DataW H} {ps : List MemPlace} (h : DataW.Trod enc Try.prog w 0 spare held 22 (.slice a n c) d ps) (hw : Okw Try.prog 22 d) : ∃ ms, SlR w 5 RMd a n c ms := by
  obtain ⟨fuel, hf⟩ := h
  obtain ⟨ms, A', n', c', e, hs⟩ := op_mds hf hw
  have e : [Value.slice a n c] = [Value.slice A' n' c'] := e
  simp only [List.cons.injEq, Value.slice.injEq, and_true] at e
  obtain ⟨rfl, rfl, rfl⟩ := e
  exact ⟨ms, hs⟩
theorem arg_strs {a : Option Addr} {n c : Nat} {d : DataW H} {ps : List MemPlace} (h : DataW.Trod enc Try.prog w 0 spare held 23 (.slice a n c) d ps) (hw : Okw Try.prog 23 d) : ∃ xs, SlR w 1 RStr a n c xs := by
  obtain ⟨fuel, hf⟩ := h
  obtain ⟨ms, A', n', c', e, hs⟩ := op_strs hf hw
  have e : [Value.slice a n c] = [Value.slice A' n' c'] := e
  simp only [List.cons.injEq, Value.slice.injEq, and_true] at e
  obtain ⟨rfl, rfl, rfl⟩ := e
  exact ⟨ms, hs⟩
end
end Go.Proofs.Ytchhjldopecliaa
