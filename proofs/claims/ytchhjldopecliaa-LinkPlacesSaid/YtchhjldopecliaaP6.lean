/-
What is reached by calls, in plain Lean. No conditions.
-/
import Derived.Test.YtchhjldopecliaaP5
namespace Go.Proofs.Ytchhjldopecliaa
open Go.RowKit

/-- What is reached from a procedure by calls. -/
inductive Rch (ps : List Pc) (x : Str) : Str → Prop
  | here : Rch ps x x
  | call {y z : Str} : Rch ps x y → z ∈ clOf ps y → Rch ps x z
/-- Names that hold all that they call. -/
def ClosedN (ps : List Pc) (S : List Str) : Prop := ∀ y ∈ S, ∀ z ∈ clOf ps y, z ∈ S
theorem Rch.sub {ps : List Pc} {x y : Str} {S : List Str} (h : Rch ps x y) (hx : x ∈ S) (hc : ClosedN ps S) : y ∈ S := by
  induction h with
  | here => exact hx
  | call _ hz ih => exact hc _ ih _ hz
theorem Rch.tr {ps : List Pc} {x y z : Str} (h : Rch ps x y) (k : Rch ps y z) : Rch ps x z := by
  induction k with
  | here => exact h
  | call _ hz ih => exact .call ih hz
theorem Rch.first {ps : List Pc} {x y z : Str} (h : y ∈ clOf ps x) (k : Rch ps y z) : Rch ps x z := Rch.tr (.call .here h) k

/-- Whatever is called is there. -/
def AllThere (ps : List Pc) : Prop := ∀ p ∈ ps, ∀ s ∈ p.cl, ∃ q, fnd s ps = some q
theorem clOf_fnd {ps : List Pc} {x : Str} {p : Pc} (h : fnd x ps = some p) : clOf ps x = p.cl := by simp [clOf, h]
theorem Rch.there {ps : List Pc} {x y : Str} (hT : AllThere ps) (h : Rch ps x y) {p : Pc} (hx : fnd x ps = some p) : ∃ q, fnd y ps = some q := by
  induction h with
  | here => exact ⟨_, hx⟩
  | call _ hz ih =>
    obtain ⟨q, hq⟩ := ih
    rw [clOf_fnd hq] at hz
    exact hT q (fnd_some hq).1 _ hz
theorem fnd_mem {ps : List Pc} {x : Str} {p : Pc} (h : fnd x ps = some p) : x ∈ ps.map (·.nm) := by
  obtain ⟨h1, h2⟩ := fnd_some h
  rw [← h2]
  exact List.mem_map_of_mem h1
theorem mem_fnd {ps : List Pc} {x : Str} (h : x ∈ ps.map (·.nm)) : ∃ p, fnd x ps = some p := by
  cases hf : fnd x ps with
  | some p => exact ⟨p, rfl⟩
  | none => exact absurd h (fnd_none.1 hf)

open Classical in
/-- Is a procedure reached from another? -/
noncomputable def rchB (ps : List Pc) (x y : Str) : Bool := decide (Rch ps x y)
theorem rchB_iff {ps : List Pc} {x y : Str} : rchB ps x y = true ↔ Rch ps x y := by
  unfold rchB
  exact @decide_eq_true_iff _ (Classical.propDecidable _)
/-- The names that are reached. -/
noncomputable def rchL (ps : List Pc) (x : Str) : List Str := (ps.map (·.nm)).filter (rchB ps x)
theorem mem_rchL {ps : List Pc} {x y : Str} : y ∈ rchL ps x ↔ y ∈ ps.map (·.nm) ∧ Rch ps x y := by
  unfold rchL
  rw [List.mem_filter, rchB_iff]

/-- What the search has found: before it, after it. -/
structure Found (ps : List Pc) (x : Str) (S S' : List Str) : Prop where
  old : ∀ y ∈ S, y ∈ S'
  here : x ∈ S'
  new : ∀ y ∈ S', y ∈ S ∨ Rch ps x y
  full : ∀ y ∈ S', y ∈ S ∨ ∀ z ∈ clOf ps y, z ∈ S'
  nodup : S'.Nodup
  there : ∀ y ∈ S', ∃ q, fnd y ps = some q
/-- A search that has begun with nothing has found just what is reached. -/
theorem Found.all {ps : List Pc} {x : Str} {S : List Str} (h : Found ps x [] S) (y : Str) : y ∈ S ↔ Rch ps x y := by
  refine ⟨fun hy => (h.new y hy).resolve_left (by simp), fun hy => hy.sub h.here fun y hy z hz => ?_⟩
  exact (h.full y hy).resolve_left (by simp) z hz
theorem Found.setS {ps : List Pc} {x : Str} {S : List Str} (h : Found ps x [] S) : setS S = setS (rchL ps x) := by
  refine setS_ext fun s => ?_
  rw [mem_rchL, h.all]
  refine ⟨fun hs => ⟨?_, hs⟩, fun hs => hs.2⟩
  obtain ⟨q, hq⟩ := h.there s ((h.all s).2 hs)
  exact fnd_mem hq

/-- What Reach tells. -/
noncomputable def rea (ms : List Md) (x : Str) : List Str × Int := if opf ms x ≠ 0 then ([], opf ms x) else (setS (rchL (prs ms) x), 0)

/-! ### trimming -/
/-- A module with some procedures alone. -/
def trimM (p : Str → Bool) (m : Md) : Md := ⟨m.nm, m.ov, ((prM m).filter (fun q => p q.nm)).map (·.nm), ((prM m).filter (fun q => p q.nm)).map (·.sz), ((prM m).filter (fun q => p q.nm)).map (·.cl)⟩
def trimL (p : Str → Bool) (ms : List Md) : List Md := (ms.map (trimM p)).filter (fun m => decide (0 < m.pr.length))
/-- What Trim tells. -/
noncomputable def trm (ms : List Md) (x : Str) : List Md × Int := if opf ms x ≠ 0 then ([], opf ms x) else (trimL (rchB (prs ms) x) ms, 0)
end Go.Proofs.Ytchhjldopecliaa
