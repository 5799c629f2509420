/-
How often overlays are loaded in a walk, in plain Lean. No conditions.
-/
import Derived.Test.YtchhjldopecliaaL10
namespace Go.Proofs.Ytchhjldopecliaa
open Go.RowKit

/-! ### how often overlays are loaded -/
def clOf (ps : List Pc) (x : Str) : List Str := ((fnd x ps).map (·.cl)).getD []
def ovOf (ps : List Pc) (x : Str) : Int := ((fnd x ps).map (·.ov)).getD 0
/-- A step of a walk; the top of the stack stands first. -/
def lStep (ps : List Pc) (top : Str) (rest : List Str) (s : Str) : Option (Str × List Str) :=
  if s = ByteArray.empty then (match rest with | [] => none | t :: r => some (t, r)) else if s ∈ clOf ps top then some (s, top :: rest) else none
def lRun (ps : List Pc) : Str → List Str → Int × Int → List Str → Option Int
  | _, _, r, [] => some r.2
  | top, rest, r, s :: w => match lStep ps top rest s with
    | none => none
    | some (t, l) => lRun ps t l (entR r (ovOf ps t)) w
def ldsR (ps : List Pc) (x : Str) (walk : List Str) : Int × Int := match lRun ps x [] (entR (0, 0) (ovOf ps x)) walk with
  | none => (0, 7)
  | some n => (n, 0)
/-- What Loads tells. -/
def lds (ms : List Md) (x : Str) (walk : List Str) : Int × Int :=
  if opf ms x ≠ 0 then (0, opf ms x) else if 1000 < walk.length then (0, 3) else ldsR (prs ms) x walk

theorem entR_loads (r : Int × Int) (o : Int) : r.2 ≤ (entR r o).2 ∧ (entR r o).2 ≤ r.2 + 1 := by
  unfold entR
  split <;> simp <;> omega
theorem opn_there {ms : List Md} (h : opn ms = 0) {p : Pc} (hp : p ∈ prs ms) {s : Str} (hs : s ∈ p.cl) : ∃ q, fnd s (prs ms) = some q := by
  cases hf : fnd s (prs ms) with
  | some q => exact ⟨q, rfl⟩
  | none =>
    have hm : s ∈ missS (prs ms) := mem_setS.2 (mem_missL.2 ⟨⟨p, hp, hs⟩, hf⟩)
    have hl : 0 < (missS (prs ms)).length := List.length_pos_of_mem hm
    unfold opn at h
    split at h
    · rename_i h1; exact absurd h h1
    · first | cases h | (rw [if_pos hl] at h; cases h)
end Go.Proofs.Ytchhjldopecliaa
