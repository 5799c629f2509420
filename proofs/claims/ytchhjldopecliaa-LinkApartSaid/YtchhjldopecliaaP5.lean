/-
Where procedures stand, in plain Lean. No conditions.
-/
import Derived.Test.YtchhjldopecliaaF12
namespace Go.Proofs.Ytchhjldopecliaa
open Go.RowKit

/-- The addresses of procedures behind others. -/
def adrs (root : Int) : List Pc → List Pc → List Int
  | _, [] => []
  | prev, p :: r => ((if 0 < p.ov then root else 0) + szAt prev p.ov.toNat) :: adrs root (prev ++ [p]) r
theorem adrs_snoc (root : Int) (p : Pc) : ∀ (l prev : List Pc), adrs root prev (l ++ [p]) = adrs root prev l ++ [(if 0 < p.ov then root else 0) + szAt (prev ++ l) p.ov.toNat]
  | [], prev => by simp [adrs]
  | q :: l, prev => by
    simp only [List.cons_append, adrs, adrs_snoc root p l]
    simp
theorem adrs_length (root : Int) : ∀ (l prev : List Pc), (adrs root prev l).length = l.length
  | [], _ => rfl
  | p :: l, prev => by simp [adrs, adrs_length root l]
theorem adrs_take {ps : List Pc} {k : Nat} {p : Pc} (h : ps[k]? = some p) (root : Int) : adrs root [] (ps.take (k + 1)) = adrs root [] (ps.take k) ++ [(if 0 < p.ov then root else 0) + szAt (ps.take k) p.ov.toNat] := by
  have e : ps.take (k + 1) = ps.take k ++ [p] := by rw [List.take_add_one, h]; rfl
  rw [e, adrs_snoc]
  simp
theorem adrs_get {root : Int} : ∀ {l prev : List Pc} {i : Nat} {p : Pc}, l[i]? = some p → (adrs root prev l)[i]? = some ((if 0 < p.ov then root else 0) + szAt (prev ++ l.take i) p.ov.toNat)
  | [], _, _, _, h => by simp at h
  | q :: l, prev, 0, p, h => by
    obtain rfl : q = p := by simpa using h
    simp [adrs]
  | q :: l, prev, i + 1, p, h => by
    have := adrs_get (root := root) (l := l) (prev := prev ++ [q]) (i := i) (p := p) (by simpa using h)
    simpa [adrs] using this
theorem GoodP.adr {ps : List Pc} (h : GoodP ps) {i : Nat} {p : Pc} (hp : ps[i]? = some p) : 0 ≤ (if 0 < p.ov then szAt ps 0 else 0) + szAt (ps.take i) p.ov.toNat ∧ (if 0 < p.ov then szAt ps 0 else 0) + szAt (ps.take i) p.ov.toNat ≤ 2000000 := by
  have h1 := h.bound i p.ov.toNat
  have h2 := h.bound ps.length 0
  rw [List.take_length] at h2
  split <;> omega

/-- What Link tells. -/
def lnk (ms : List Md) : List Str × List Int × Int := if opn ms ≠ 0 then ([], [], opn ms) else ((prs ms).map (·.nm), adrs (endAt ms 0) [] (prs ms), 0)

theorem szAt_mono {ps : List Pc} (h : GoodP ps) (o : Nat) : ∀ {i k : Nat}, i ≤ k → szAt (ps.take i) o ≤ szAt (ps.take k) o := by
  intro i k hik
  obtain ⟨d, rfl⟩ := Nat.exists_eq_add_of_le hik
  clear hik
  induction d with
  | zero => exact Int.le_refl _
  | succ d ih =>
    refine Int.le_trans ih ?_
    rw [← Nat.add_assoc]
    cases hx : ps[i + d]? with
    | none =>
      have hl := List.getElem?_eq_none_iff.1 hx
      rw [List.take_of_length_le hl, List.take_of_length_le (by omega)]
      exact Int.le_refl _
    | some p =>
      rw [szAt_take hx]
      have := h.sz p (List.mem_iff_getElem?.2 ⟨_, hx⟩)
      split <;> omega
theorem szAt_next {ps : List Pc} {i : Nat} {p : Pc} (hp : ps[i]? = some p) (h0 : 0 ≤ p.ov) : szAt (ps.take (i + 1)) p.ov.toNat = szAt (ps.take i) p.ov.toNat + p.sz := by
  rw [szAt_take hp, if_pos (by omega)]
theorem szAt_all {ps : List Pc} (h : GoodP ps) (i o : Nat) : szAt (ps.take i) o ≤ szAt ps o := by
  have := szAt_mono h o (i := i) (k := i + ps.length) (by omega)
  rwa [List.take_of_length_le (l := ps) (i := i + ps.length) (by omega)] at this

/-- The address of a procedure. -/
def adr (ps : List Pc) (i : Nat) (p : Pc) : Int := (if 0 < p.ov then szAt ps 0 else 0) + szAt (ps.take i) p.ov.toNat
/-- No procedure stands outside its place. -/
theorem adr_end {ps : List Pc} (h : GoodP ps) {i : Nat} {p : Pc} (hp : ps[i]? = some p) : 0 ≤ adr ps i p ∧ adr ps i p + p.sz ≤ (if 0 < p.ov then szAt ps 0 else 0) + szAt ps p.ov.toNat := by
  have h1 := h.ov p (List.mem_iff_getElem?.2 ⟨_, hp⟩)
  have h2 := szAt_next hp h1.1
  have h3 := szAt_all h (i + 1) p.ov.toNat
  have h4 := (h.adr hp).1
  unfold adr
  omega
theorem adr_root {ps : List Pc} (h : GoodP ps) {i : Nat} {p : Pc} (hp : ps[i]? = some p) (h0 : p.ov = 0) : adr ps i p + p.sz ≤ szAt ps 0 := by
  have := (adr_end h hp).2
  rw [h0] at this
  simpa using this
theorem adr_over {ps : List Pc} (h : GoodP ps) {i : Nat} {p : Pc} (hp : ps[i]? = some p) (h0 : p.ov ≠ 0) : szAt ps 0 ≤ adr ps i p := by
  have h1 := h.ov p (List.mem_iff_getElem?.2 ⟨_, hp⟩)
  have h2 := h.bound i p.ov.toNat
  unfold adr
  rw [if_pos (by omega)]
  omega
/-- Two that can be there at the same time stand apart. -/
theorem adr_apart {ps : List Pc} (h : GoodP ps) {i k : Nat} {p q : Pc} (hp : ps[i]? = some p) (hq : ps[k]? = some q) (hki : k < i) (ht : p.ov = q.ov ∨ p.ov = 0 ∨ q.ov = 0) :
    ¬ (adr ps i p < adr ps k q + q.sz ∧ adr ps k q < adr ps i p + p.sz) := by
  rintro ⟨h1, h2⟩
  by_cases e : p.ov = q.ov
  · have h3 := h.ov q (List.mem_iff_getElem?.2 ⟨_, hq⟩)
    have h4 := szAt_next hq h3.1
    have h5 := szAt_mono h q.ov.toNat (i := k + 1) (k := i) hki
    unfold adr at h1
    rw [e] at h1
    omega
  · by_cases e0 : p.ov = 0
    · have h3 := adr_root h hp e0
      have h4 := adr_over h hq (by omega)
      omega
    · have h0 : q.ov = 0 := by rcases ht with h | h | h <;> first | exact h | exact absurd h e | exact absurd h e0
      have h3 := adr_root h hq h0
      have h4 := adr_over h hp e0
      omega
end Go.Proofs.Ytchhjldopecliaa
