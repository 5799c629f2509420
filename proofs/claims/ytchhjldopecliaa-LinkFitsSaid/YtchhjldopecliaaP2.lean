/-
The procedures of modules, and the map that holds them. No conditions.
-/
import Derived.Test.YtchhjldopecliaaL7
namespace Go.Proofs.Ytchhjldopecliaa
open Go.RowKit

/-! ### procedures -/
structure Pc where
  nm : Str
  ov : Int
  sz : Int
  cl : List Str

def pcOf (m : Md) (i : Nat) : Pc := ⟨m.pr.getD i ByteArray.empty, m.ov, m.sz.getD i 0, m.cl.getD i []⟩
def prM (m : Md) : List Pc := (List.range m.pr.length).map (pcOf m)
def prs (ms : List Md) : List Pc := ms.flatMap prM
def fnd (x : Str) (ps : List Pc) : Option Pc := ps.find? (fun p => decide (p.nm = x))

theorem prM_length (m : Md) : (prM m).length = m.pr.length := by simp [prM]
theorem prM_get (m : Md) (i : Nat) (h : i < m.pr.length) : (prM m)[i]? = some (pcOf m i) := by simp [prM, h]
theorem prM_take (m : Md) (i : Nat) (h : i < m.pr.length) : (prM m).take (i + 1) = (prM m).take i ++ [pcOf m i] := by
  rw [List.take_add_one, prM_get m i h]; rfl
theorem prM_nm (m : Md) : (prM m).map (·.nm) = m.pr := by
  apply List.ext_getElem?
  intro i
  rw [List.getElem?_map]
  by_cases h : i < m.pr.length
  · rw [prM_get m i h]
    simp [pcOf, h]
  · rw [List.getElem?_eq_none (by rw [prM_length]; omega), List.getElem?_eq_none (by omega)]
    rfl
theorem prs_nm (ms : List Md) : (prs ms).map (·.nm) = procsOf ms := by
  unfold prs procsOf
  rw [List.map_flatMap]
  congr 1
  funext m
  exact prM_nm m
theorem prs_take {ms : List Md} {k : Nat} {m : Md} (h : ms[k]? = some m) : prs (ms.take (k + 1)) = prs (ms.take k) ++ prM m := by
  unfold prs
  rw [List.take_add_one, h]
  simp
theorem prs_length (ms : List Md) : (prs ms).length = sumL ms := by
  rw [← procsOf_length, ← prs_nm, List.length_map]
theorem fnd_none {x : Str} {ps : List Pc} : fnd x ps = none ↔ x ∉ ps.map (·.nm) := by
  unfold fnd
  rw [List.find?_eq_none]
  simp
theorem fnd_some {x : Str} {ps : List Pc} {p : Pc} (h : fnd x ps = some p) : p ∈ ps ∧ p.nm = x := by
  unfold fnd at h
  exact ⟨List.mem_of_find?_eq_some h, by simpa using List.find?_some h⟩

/-! ### the map of procedures -/
abbrev encS : Str → Value := fun s => .string s
def VPc (w : World) (p : Pc) (v : Value) : Prop := ∃ A n c, v = .agg #[.int .i64 p.ov, .slice A n c] ∧ SlR w 1 RStr A n c p.cl
theorem VPc.below {w w' : World} {p : Pc} {v : Value} (h : VPc w p v) (hb : Below w.heap.size w w') : VPc w' p v := by
  obtain ⟨A, n, c, e, h⟩ := h
  exact ⟨A, n, c, e, h.below mono_str hb⟩
inductive PV (w : World) : List (Str × Value) → List Pc → Prop
  | nil : PV w [] []
  | cons {v : Value} {p : Pc} {r : List (Str × Value)} {ps : List Pc} : VPc w p v → PV w r ps → PV w ((p.nm, v) :: r) (p :: ps)
theorem PV.mono {w w' : World} {kvs : List (Str × Value)} {ps : List Pc} (h : PV w kvs ps) (hb : Below w.heap.size w w') : PV w' kvs ps := by
  induction h with
  | nil => exact .nil
  | cons h _ ih => exact .cons (h.below hb) ih
theorem PV.app {w : World} {kvs : List (Str × Value)} {ps : List Pc} {p : Pc} {v : Value} (h : PV w kvs ps) (hv : VPc w p v) : PV w (kvs ++ [(p.nm, v)]) (ps ++ [p]) := by
  induction h with
  | nil => exact .cons hv .nil
  | cons h _ ih => exact .cons h ih
theorem PV.keys {w : World} {kvs : List (Str × Value)} {ps : List Pc} (h : PV w kvs ps) : kvs.map (·.1) = ps.map (·.nm) := by
  induction h with
  | nil => rfl
  | cons h _ ih => simp [ih]
theorem PV.mem {w : World} {kvs : List (Str × Value)} {ps : List Pc} (h : PV w kvs ps) {x : Str} {v : Value} (hm : (x, v) ∈ kvs) : ∃ p ∈ ps, x = p.nm ∧ VPc w p v := by
  induction h with
  | nil => cases hm
  | @cons v' p r ps hv _ ih =>
    rcases List.mem_cons.1 hm with e | e
    · injection e with e1 e2
      subst e1 e2
      exact ⟨p, List.mem_cons_self .., rfl, hv⟩
    · obtain ⟨q, hq, r⟩ := ih e
      exact ⟨q, List.mem_cons_of_mem _ hq, r⟩
theorem PV.get_some {w : World} {kvs : List (Str × Value)} {ps : List Pc} (h : PV w kvs ps) {x : Str} {p : Pc} (hf : fnd x ps = some p) : ∃ v, getK x kvs = some v ∧ VPc w p v := by
  induction h with
  | nil => cases hf
  | @cons v' q r ps hv _ ih =>
    rw [getK_cons]
    unfold fnd at hf ih
    rw [List.find?_cons] at hf
    by_cases he : q.nm = x
    · simp only [he, decide_true, Option.some.injEq] at hf
      subst hf
      exact ⟨v', by rw [if_pos he.symm], hv⟩
    · simp only [he, decide_false] at hf
      rw [if_neg (fun e => he e.symm)]
      exact ih hf
theorem PV.get_none {w : World} {kvs : List (Str × Value)} {ps : List Pc} (h : PV w kvs ps) {x : Str} (hf : fnd x ps = none) : getK x kvs = none := by
  rw [getK_none]
  intro kv hkv e
  rw [fnd_none, ← h.keys] at hf
  exact hf (e ▸ List.mem_map_of_mem hkv)

/-- The map of procedures lies there. -/
def MapP (w : World) (b : Nat) (ps : List Pc) : Prop := ∃ kvs, MapK encS w b kvs ∧ PV w kvs ps
theorem MapP.below {w w' : World} {b : Nat} {ps : List Pc} (h : MapP w b ps) (hb : Below w.heap.size w w') : MapP w' b ps := by
  obtain ⟨kvs, h1, h2⟩ := h
  exact ⟨kvs, h1.below hb, h2.mono hb⟩
theorem MapP.lt {w : World} {b : Nat} {ps : List Pc} (h : MapP w b ps) : b < w.heap.size := by
  obtain ⟨kvs, h1, h2⟩ := h
  exact h1.lt
end Go.Proofs.Ytchhjldopecliaa
