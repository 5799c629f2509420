/-
The greatest of a set of numbers, or that there is none; tables of the greatest numbers of loads of closed walks: in plain Lean. No conditions.
The steps of the reference's tables, and the greatest number of loads of walks that do not return: in plain Lean. No conditions.
What the reference's tables of the worst walks lie on in memory, and what its enter computes. Conditions: the table lies in memory.
What the reference's around computes: the greatest numbers of loads of closed walks. Conditions: the table lies in memory.
What the reference's open computes: the greatest number of loads of walks that do not return. Conditions: the table lies in memory.
What the reference's Worst computes. Condition: the arguments are a slice of modules and a text.
That LinkWorst returns true. Condition: the arguments are a slice of modules, a text and a number.
-/
import Derived.Test.YtchhjldopecliaaK7
import Derived.Deep.MidRow
import Derived.Deep.WholeRow
import Derived.StillTailTactics
namespace Go.Proofs.Ytchhjldopecliaa
open Go.RowKit

/-- Less than any number of loads. -/
def never : Int := -1073741824
/-- The greatest of a set, or never. -/
def Best (S : Int → Prop) (v : Int) : Prop := (v = never ∧ ∀ L, ¬ S L) ∨ (S v ∧ ∀ L, S L → L ≤ v)
theorem Best.congr {S T : Int → Prop} {v : Int} (h : Best S v) (e : ∀ L, S L ↔ T L) : Best T v := by
  rcases h with ⟨a, b⟩ | ⟨a, b⟩
  · exact .inl ⟨a, fun L hL => b L ((e L).2 hL)⟩
  · exact .inr ⟨(e v).1 a, fun L hL => b L ((e L).2 hL)⟩
theorem Best.none {S : Int → Prop} {v : Int} (h : Best S v) (hv : v = never) (h0 : ∀ L, S L → 0 ≤ L) : ∀ L, ¬ S L := by
  rcases h with ⟨_, b⟩ | ⟨a, b⟩
  · exact b
  · have := h0 v a
    rw [hv] at this
    exact absurd this (by decide)
theorem Best.some {S : Int → Prop} {v : Int} (h : Best S v) (hv : v ≠ never) : S v ∧ ∀ L, S L → L ≤ v := by
  rcases h with ⟨a, _⟩ | h
  · exact absurd a hv
  · exact h
/-- One more set of sums comes in. -/
theorem Best.add {S S1 S2 : Int → Prop} {v i t x y : Int} (h : Best S v) (_ : ∀ L, S L → 0 ≤ L) (h1 : S1 i ∧ ∀ L, S1 L → L ≤ i) (h2 : S2 t ∧ ∀ L, S2 L → L ≤ t) (hn : 0 ≤ x + i + y + t) :
    Best (fun L => S L ∨ ∃ L1 L2, S1 L1 ∧ S2 L2 ∧ L = x + L1 + y + L2) (max v (x + i + y + t)) := by
  right
  have hb : ∀ L, (∃ L1 L2, S1 L1 ∧ S2 L2 ∧ L = x + L1 + y + L2) → L ≤ x + i + y + t := by
    rintro L ⟨L1, L2, a, b, rfl⟩
    have := h1.2 L1 a
    have := h2.2 L2 b
    omega
  rcases h with ⟨a, b⟩ | ⟨a, b⟩
  · have e : max v (x + i + y + t) = x + i + y + t := by
      rw [a]
      unfold never
      omega
    rw [e]
    refine ⟨.inr ⟨i, t, h1.1, h2.1, rfl⟩, fun L hL => ?_⟩
    rcases hL with hL | hL
    · exact absurd hL (b L)
    · exact hb L hL
  · refine ⟨?_, fun L hL => ?_⟩
    · rcases Int.le_total v (x + i + y + t) with q | q
      · rw [Int.max_eq_right q]
        exact .inr ⟨i, t, h1.1, h2.1, rfl⟩
      · rw [Int.max_eq_left q]
        exact .inl a
    · rcases hL with hL | hL
      · have := b L hL
        omega
      · have := hb L hL
        omega

/-! ### rooms -/
theorem eR_bd {ps : List Pc} (hov : ∀ p ∈ ps, 0 ≤ p.ov ∧ p.ov ≤ 15) {o : Int} (ho : 0 ≤ o ∧ o ≤ 15) (q : Str) : 0 ≤ eR ps o q ∧ eR ps o q ≤ 15 := by
  unfold eR entR
  split
  · exact ho
  · unfold ovOf
    cases hf : fnd q ps with
    | none => simp
    | some p =>
      have hm := List.mem_of_find?_eq_some hf
      exact hov p hm
theorem Cl_room {ps : List Pc} (hov : ∀ p ∈ ps, 0 ≤ p.ov ∧ p.ov ≤ 15) {k : Str} {o e L : Int} {n : Nat} (h : Cl ps k o n e L) (ho : 0 ≤ o ∧ o ≤ 15) : 0 ≤ e ∧ e ≤ 15 := by
  induction h with
  | nil => exact ho
  | cons _ _ _ h1 h2 => exact h2 (eR_bd hov (h1 (eR_bd hov ho _)) _)

/-! ### the table of one procedure, room and number of steps -/
/-- Each end's greatest number of loads. -/
def ArrS (S : Int → Int → Prop) (a : List Int) : Prop := a.length = 16 ∧ ∀ e : Nat, e < 16 → Best (S (e : Int)) (a.getD e 0)
theorem ArrS.congr {S T : Int → Int → Prop} {a : List Int} (h : ArrS S a) (e : ∀ x L, S x L ↔ T x L) : ArrS T a := ⟨h.1, fun i hi => (h.2 i hi).congr (e _)⟩
/-- What a first call to q, s steps there, and a return in room r bring. -/
def One (ps : List Pc) (k : Str) (room : Int) (n : Nat) (q : Str) (s : Nat) (r e L : Int) : Prop :=
  s + 2 ≤ n ∧ ∃ L1 L2, Cl ps q (eR ps room q) s r L1 ∧ Cl ps k (eR ps r k) (n - s - 2) e L2 ∧ L = eL ps room q + L1 + eL ps r k + L2
theorem One_ge {ps : List Pc} {k : Str} {room : Int} {n : Nat} {q : Str} {s : Nat} {r e L : Int} (h : One ps k room n q s r e L) : 0 ≤ L := by
  obtain ⟨_, L1, L2, h1, h2, rfl⟩ := h
  have := (Cl_ge h1).1
  have := (Cl_ge h2).1
  have := (eL_01 ps room q).1
  have := (eL_01 ps r k).1
  omega
/-- Nothing done, or a call among the first. -/
def SJ (ps : List Pc) (k : Str) (room : Int) (n : Nat) (l : List Str) (e L : Int) : Prop := (n = 0 ∧ e = room ∧ L = 0) ∨ ∃ q ∈ l, ∃ s r, One ps k room n q s r e L
def SS (ps : List Pc) (k : Str) (room : Int) (n : Nat) (l : List Str) (q : Str) (s : Nat) (e L : Int) : Prop := SJ ps k room n l e L ∨ ∃ s' r, s' < s ∧ One ps k room n q s' r e L
def SR (ps : List Pc) (k : Str) (room : Int) (n : Nat) (l : List Str) (q : Str) (s : Nat) (r : Nat) (e L : Int) : Prop := SS ps k room n l q s e L ∨ ∃ r' : Int, r' < r ∧ One ps k room n q s r' e L
def SE (ps : List Pc) (k : Str) (room : Int) (n : Nat) (l : List Str) (q : Str) (s : Nat) (r : Nat) (e0 : Nat) (e L : Int) : Prop := SR ps k room n l q s r e L ∨ (e < e0 ∧ One ps k room n q s r e L)
section
variable {ps : List Pc} {k : Str} {room : Int} {n : Nat} {l : List Str} {q : Str} {s r : Nat} {e L : Int}
theorem SJ_ge (h : SJ ps k room n l e L) : 0 ≤ L := by
  rcases h with ⟨_, _, rfl⟩ | ⟨_, _, _, _, h⟩
  · exact Int.le_refl _
  · exact One_ge h
theorem SR_ge (h : SR ps k room n l q s r e L) : 0 ≤ L := by
  rcases h with (h | ⟨_, _, _, h⟩) | ⟨_, _, h⟩
  · exact SJ_ge h
  · exact One_ge h
  · exact One_ge h
theorem SS_zero : SS ps k room n l q 0 e L ↔ SJ ps k room n l e L := ⟨fun h => h.elim id (fun ⟨_, _, h, _⟩ => absurd h (Nat.not_lt_zero _)), .inl⟩
theorem SE_zero (he : 0 ≤ e) : SE ps k room n l q s r 0 e L ↔ SR ps k room n l q s r e L := ⟨fun h => h.elim id (fun h => absurd h.1 (by omega)), .inl⟩
theorem SR_zero (hr : ∀ r e L, One ps k room n q s r e L → 0 ≤ r) : SR ps k room n l q s 0 e L ↔ SS ps k room n l q s e L := ⟨fun h => h.elim id (fun ⟨r', h, h2⟩ => by have := hr _ _ _ h2; omega), .inl⟩
theorem SE_done (he : e < 16) : SE ps k room n l q s r 16 e L ↔ SR ps k room n l q s (r + 1) e L := by
  unfold SE SR
  constructor
  · rintro ((h | ⟨r', h1, h2⟩) | ⟨_, h⟩)
    · exact .inl h
    · exact .inr ⟨r', by omega, h2⟩
    · exact .inr ⟨r, by omega, h⟩
  · rintro (h | ⟨r', h1, h2⟩)
    · exact .inl (.inl h)
    · by_cases hr : r' = r
      · subst hr
        exact .inr ⟨he, h2⟩
      · exact .inl (.inr ⟨r', by omega, h2⟩)
theorem SR_done (hr : ∀ r e L, One ps k room n q s r e L → r ≤ 15) : SR ps k room n l q s 16 e L ↔ SS ps k room n l q (s + 1) e L := by
  unfold SR SS
  constructor
  · rintro ((h | ⟨s', r, h1, h2⟩) | ⟨r', _, h⟩)
    · exact .inl h
    · exact .inr ⟨s', r, by omega, h2⟩
    · exact .inr ⟨s, r', by omega, h⟩
  · rintro (h | ⟨s', r, h1, h2⟩)
    · exact .inl (.inl h)
    · by_cases hs : s' = s
      · subst hs
        exact .inr ⟨r, by have := hr _ _ _ h2; omega, h2⟩
      · exact .inl (.inr ⟨s', r, by omega, h2⟩)
theorem SS_done (hn : n < s + 2) : SS ps k room n l q s e L ↔ SJ ps k room n (l ++ [q]) e L := by
  unfold SS SJ
  constructor
  · rintro ((h | ⟨q', h1, h2⟩) | ⟨s', r, _, h⟩)
    · exact .inl h
    · exact .inr ⟨q', List.mem_append.2 (.inl h1), h2⟩
    · exact .inr ⟨q, by simp, s', r, h⟩
  · rintro (h | ⟨q', h1, s', r, h2⟩)
    · exact .inl (.inl h)
    · rcases List.mem_append.1 h1 with h1 | h1
      · exact .inl (.inr ⟨q', h1, s', r, h2⟩)
      · obtain rfl : q' = q := by simpa using h1
        exact .inr ⟨s', r, by have := h2.1; omega, h2⟩
/-- All the closed walks. -/
theorem SJ_all : SJ ps k room n (setS (clOf ps k)) e L ↔ Cl ps k room n e L := by
  constructor
  · rintro (⟨rfl, rfl, rfl⟩ | ⟨q, hq, s, r, hs, L1, L2, h1, h2, rfl⟩)
    · exact .nil _ _
    · have := Cl.cons (mem_setS.1 hq) h1 h2
      rwa [show s + (n - s - 2) + 2 = n by omega] at this
  · intro h
    cases h with
    | nil => exact .inl ⟨rfl, rfl, rfl⟩
    | @cons _ q _ e1 _ a b L1 L2 hq h1 h2 =>
      refine .inr ⟨q, mem_setS.2 hq, a, e1, by omega, L1, L2, h1, ?_, rfl⟩
      rwa [show a + b + 2 - a - 2 = b by omega]
theorem One_room (hov : ∀ p ∈ ps, 0 ≤ p.ov ∧ p.ov ≤ 15) (ho : 0 ≤ room ∧ room ≤ 15) {r e L : Int} (h : One ps k room n q s r e L) : 0 ≤ r ∧ r ≤ 15 := by
  obtain ⟨_, L1, L2, h1, _, _⟩ := h
  exact Cl_room hov h1 (eR_bd hov ho q)
end
end Go.Proofs.Ytchhjldopecliaa
namespace Go.Proofs.Ytchhjldopecliaa
open Go.RowKit

section
variable {ps : List Pc} {k : Str} {room : Int} {n : Nat} {l : List Str} {q : Str} {s r : Nat}
theorem ArrS.set {S T : Int → Int → Prop} {a : List Int} (h : ArrS S a) (i : Nat) (v : Int) (hv : i < 16 → Best (T (i : Int)) v) (hT : ∀ e : Nat, e < 16 → e ≠ i → ∀ L, S (e : Int) L ↔ T (e : Int) L) : ArrS T (a.set i v) := by
  refine ⟨by rw [List.length_set]; exact h.1, fun e he => ?_⟩
  rw [List.getD_eq_getElem?_getD, List.getElem?_set]
  by_cases hi : i = e
  · subst hi
    rw [if_pos rfl, if_pos (by rw [h.1]; exact he)]
    exact hv he
  · rw [if_neg hi, ← List.getD_eq_getElem?_getD]
    exact (h.2 e he).congr (hT e he (fun q => hi q.symm))
theorem SE_succ_ne {e : Nat} {e0 : Nat} (h : e ≠ e0) (L : Int) : SE ps k room n l q s r e0 (e : Int) L ↔ SE ps k room n l q s r (e0 + 1) (e : Int) L := by
  unfold SE
  refine or_congr_right (and_congr_left fun _ => ?_)
  omega
/-- An end that the walk back in the procedure can have. -/
theorem ArrS.step {a : List Int} {e0 : Nat} {i t : Int} (h : ArrS (SE ps k room n l q s r e0) a) (hs : s + 2 ≤ n)
    (hi : Best (Cl ps q (eR ps room q) s (r : Int)) i) (hin : i ≠ never) (ht : Best (Cl ps k (eR ps (r : Int) k) (n - s - 2) (e0 : Int)) t) (htn : t ≠ never) :
    ArrS (SE ps k room n l q s r (e0 + 1)) (a.set e0 (max (a.getD e0 0) (eL ps room q + i + eL ps (r : Int) k + t))) := by
  have h1 := hi.some hin
  have h2 := ht.some htn
  refine h.set e0 _ (fun he => ?_) (fun e _ hne L => SE_succ_ne hne L)
  have hb := (h.2 e0 he).add (x := eL ps room q) (y := eL ps (r : Int) k) (fun L hL => by
    rcases hL with hL | ⟨_, hL⟩
    · exact SR_ge hL
    · exact One_ge hL) h1 h2 (by
      have := (Cl_ge h1.1).1
      have := (Cl_ge h2.1).1
      have := (eL_01 ps room q).1
      have := (eL_01 ps (r : Int) k).1
      omega)
  refine hb.congr fun L => ?_
  unfold SE
  constructor
  · rintro ((h | h) | ⟨L1, L2, a1, a2, rfl⟩)
    · exact .inl h
    · exact absurd h.1 (by omega)
    · exact .inr ⟨by omega, hs, L1, L2, a1, a2, rfl⟩
  · rintro (h | ⟨_, _, L1, L2, a1, a2, rfl⟩)
    · exact .inl (.inl h)
    · exact .inr ⟨L1, L2, a1, a2, rfl⟩
/-- An end that it can't have. -/
theorem ArrS.skip {a : List Int} {e0 : Nat} {t : Int} (h : ArrS (SE ps k room n l q s r e0) a) (ht : Best (Cl ps k (eR ps (r : Int) k) (n - s - 2) (e0 : Int)) t) (htn : t = never) : ArrS (SE ps k room n l q s r (e0 + 1)) a := by
  have hno := ht.none htn (fun L hL => (Cl_ge hL).1)
  refine ⟨h.1, fun e he => (h.2 e he).congr fun L => ?_⟩
  by_cases hne : e = e0
  · subst hne
    unfold SE
    constructor
    · rintro (h | h)
      · exact .inl h
      · exact absurd h.1 (by omega)
    · rintro (h | ⟨_, _, L1, L2, _, a2, _⟩)
      · exact .inl h
      · exact absurd a2 (hno L2)
  · exact SE_succ_ne hne L
/-- A room in which the first call can't end. -/
theorem ArrS.skipR {a : List Int} {i : Int} (h : ArrS (SR ps k room n l q s r) a) (hi : Best (Cl ps q (eR ps room q) s (r : Int)) i) (hin : i = never) : ArrS (SR ps k room n l q s (r + 1)) a := by
  have hno := hi.none hin (fun L hL => (Cl_ge hL).1)
  refine ⟨h.1, fun e he => (h.2 e he).congr fun L => ?_⟩
  unfold SR
  constructor
  · rintro (h | ⟨r', h1, h2⟩)
    · exact .inl h
    · exact .inr ⟨r', by omega, h2⟩
  · rintro (h | ⟨r', h1, h2⟩)
    · exact .inl h
    · by_cases hr : r' = r
      · subst hr
        obtain ⟨_, L1, L2, a1, _, _⟩ := h2
        exact absurd a1 (hno L1)
      · exact .inr ⟨r', by omega, h2⟩
/-- At the beginning. -/
theorem ArrS.init (hr : 0 ≤ room ∧ room ≤ 15) : ArrS (SJ ps k room n []) (if n = 0 then (List.replicate 16 never).set room.toNat 0 else List.replicate 16 never) := by
  have e1 : ∀ (e L : Int), SJ ps k room n [] e L ↔ n = 0 ∧ e = room ∧ L = 0 := fun e L => by
    unfold SJ
    simp
  by_cases hn : n = 0
  · rw [if_pos hn]
    refine ⟨by simp, fun e he => ?_⟩
    rw [List.getD_eq_getElem?_getD, List.getElem?_set]
    by_cases h : room.toNat = e
    · rw [if_pos h, if_pos (by simp; omega)]
      exact .inr ⟨(e1 _ _).2 ⟨hn, by omega, rfl⟩, fun L hL => by rw [((e1 _ _).1 hL).2.2]; exact Int.le_refl _⟩
    · rw [if_neg h, List.getElem?_replicate, if_pos he]
      exact .inl ⟨rfl, fun L hL => by have := ((e1 _ _).1 hL).2.1; omega⟩
  · rw [if_neg hn]
    refine ⟨by simp, fun e he => ?_⟩
    rw [List.getD_eq_getElem?_getD, List.getElem?_replicate, if_pos he]
    exact .inl ⟨rfl, fun L hL => hn ((e1 _ _).1 hL).1⟩
end

/-! ### walks that do not return -/
/-- A greatest number. -/
def Mx (S : Int → Prop) (v : Int) : Prop := S v ∧ ∀ L, S L → L ≤ v
theorem Mx.congr {S T : Int → Prop} {v : Int} (h : Mx S v) (e : ∀ L, S L ↔ T L) : Mx T v := ⟨(e v).1 h.1, fun L hL => h.2 L ((e L).2 hL)⟩
theorem Mx.add {S T : Int → Prop} {v t : Int} (h : Mx S v) (k : Mx T t) : Mx (fun L => S L ∨ T L) (max v t) := by
  refine ⟨?_, fun L hL => ?_⟩
  · rcases Int.le_total v t with q | q
    · rw [Int.max_eq_right q]; exact .inr k.1
    · rw [Int.max_eq_left q]; exact .inl h.1
  · rcases hL with hL | hL
    · have := h.2 L hL; omega
    · have := k.2 L hL; omega
/-- A closed walk of s steps, a call to q, and what follows. -/
def Ont (ps : List Pc) (k : Str) (room : Int) (n s : Nat) (r : Int) (q : Str) (L : Int) : Prop := s < n ∧ ∃ L1 L2, Cl ps k room s r L1 ∧ Opw ps q (eR ps r q) (n - s - 1) L2 ∧ L = L1 + eL ps r q + L2
/-- What steps below s bring. -/
def OS (ps : List Pc) (k : Str) (room : Int) (n s : Nat) (L : Int) : Prop := L = 0 ∨ ∃ s' r, s' < s ∧ (Cl ps k room s' r L ∨ ∃ q ∈ setS (clOf ps k), Ont ps k room n s' r q L)
/-- And in rooms below r at s steps. -/
def OR (ps : List Pc) (k : Str) (room : Int) (n s r : Nat) (L : Int) : Prop := OS ps k room n s L ∨ ∃ r' : Int, r' < r ∧ (Cl ps k room s r' L ∨ ∃ q ∈ setS (clOf ps k), Ont ps k room n s r' q L)
/-- And in room r with the first calls. -/
def OQ (ps : List Pc) (k : Str) (room : Int) (n s r : Nat) (l : List Str) (L : Int) : Prop := OR ps k room n s r L ∨ Cl ps k room s (r : Int) L ∨ ∃ q ∈ l, Ont ps k room n s (r : Int) q L
section
variable {ps : List Pc} {k : Str} {room : Int} {n s r : Nat} {l : List Str} {q : Str} {v i t L : Int}
theorem OS_zero : Mx (OS ps k room n 0) 0 := ⟨.inl rfl, fun L hL => by rcases hL with rfl | ⟨_, _, h, _⟩; exact Int.le_refl _; omega⟩
theorem OR_zero (hr : ∀ s r L, Cl ps k room s r L → 0 ≤ r) : OR ps k room n s 0 L ↔ OS ps k room n s L := by
  unfold OR
  constructor
  · rintro (h | ⟨r', h, h1 | ⟨q, _, _, L1, _, h1, _⟩⟩)
    · exact h
    · have := hr _ _ _ h1; omega
    · have := hr _ _ _ h1; omega
  · exact .inl
theorem OQ_nil (h : Mx (OR ps k room n s r) v) (hi : Best (Cl ps k room s (r : Int)) i) (hin : i ≠ never) : Mx (OQ ps k room n s r []) (max v i) := by
  refine (h.add (hi.some hin)).congr fun L => ?_
  unfold OQ
  simp
theorem OQ_snoc (h : Mx (OQ ps k room n s r l) v) (hs : s < n) (hi : Best (Cl ps k room s (r : Int)) i) (hin : i ≠ never) (ht : Mx (Opw ps q (eR ps (r : Int) q) (n - s - 1)) t) :
    Mx (OQ ps k room n s r (l ++ [q])) (max v (i + eL ps (r : Int) q + t)) := by
  have h1 := hi.some hin
  have hm : Mx (Ont ps k room n s (r : Int) q) (i + eL ps (r : Int) q + t) := ⟨⟨hs, i, t, h1.1, ht.1, rfl⟩, by
    rintro L ⟨_, L1, L2, a1, a2, rfl⟩
    have := h1.2 L1 a1
    have := ht.2 L2 a2
    omega⟩
  refine (h.add hm).congr fun L => ?_
  unfold OQ
  constructor
  · rintro ((h | h | ⟨q', a, b⟩) | h)
    · exact .inl h
    · exact .inr (.inl h)
    · exact .inr (.inr ⟨q', List.mem_append.2 (.inl a), b⟩)
    · exact .inr (.inr ⟨q, by simp, h⟩)
  · rintro (h | h | ⟨q', a, b⟩)
    · exact .inl (.inl h)
    · exact .inl (.inr (.inl h))
    · rcases List.mem_append.1 a with a | a
      · exact .inl (.inr (.inr ⟨q', a, b⟩))
      · obtain rfl : q' = q := by simpa using a
        exact .inr b
theorem OQ_done (h : OQ ps k room n s r (if s < n then setS (clOf ps k) else []) L) : OR ps k room n s (r + 1) L := by
  rcases h with (h | ⟨r', a, b⟩) | h | ⟨q, a, b⟩
  · exact .inl h
  · exact .inr ⟨r', by omega, b⟩
  · exact .inr ⟨r, by omega, .inl h⟩
  · split at a
    · exact .inr ⟨r, by omega, .inr ⟨q, a, b⟩⟩
    · cases a
theorem OQ_done' (h : OR ps k room n s (r + 1) L) : OQ ps k room n s r (if s < n then setS (clOf ps k) else []) L := by
  rcases h with h | ⟨r', a, b⟩
  · exact .inl (.inl h)
  · by_cases hr : r' = r
    · subst hr
      rcases b with b | ⟨q, c, d⟩
      · exact .inr (.inl b)
      · refine .inr (.inr ⟨q, ?_, d⟩)
        rw [if_pos d.1]
        exact c
    · exact .inl (.inr ⟨r', by omega, b⟩)
theorem OR_skip (h : Mx (OR ps k room n s r) v) (hi : Best (Cl ps k room s (r : Int)) i) (hin : i = never) : Mx (OR ps k room n s (r + 1)) v := by
  have hno := hi.none hin (fun L hL => (Cl_ge hL).1)
  refine h.congr fun L => ?_
  unfold OR
  constructor
  · rintro (h | ⟨r', a, b⟩)
    · exact .inl h
    · exact .inr ⟨r', by omega, b⟩
  · rintro (h | ⟨r', a, b⟩)
    · exact .inl h
    · by_cases hr : r' = r
      · subst hr
        rcases b with b | ⟨q, _, _, L1, _, b, _⟩
        · exact absurd b (hno L)
        · exact absurd b (hno L1)
      · exact .inr ⟨r', by omega, b⟩
theorem OR_done (hr : ∀ s r L, Cl ps k room s r L → r ≤ 15) : OR ps k room n s 16 L ↔ OS ps k room n (s + 1) L := by
  unfold OR OS
  constructor
  · rintro ((h | ⟨s', r', a, b⟩) | ⟨r', a, b⟩)
    · exact .inl h
    · exact .inr ⟨s', r', by omega, b⟩
    · exact .inr ⟨s, r', by omega, b⟩
  · rintro (h | ⟨s', r', a, b⟩)
    · exact .inl (.inl h)
    · by_cases hs : s' = s
      · subst hs
        refine .inr ⟨r', ?_, b⟩
        rcases b with b | ⟨q, _, _, L1, _, b, _⟩
        · have := hr _ _ _ b; omega
        · have := hr _ _ _ b; omega
      · exact .inl (.inr ⟨s', r', by omega, b⟩)
/-- All the walks that do not return. -/
theorem OS_all : OS ps k room n (n + 1) L ↔ Opw ps k room n L := by
  constructor
  · rintro (rfl | ⟨s', r', a, b | ⟨q, c, d, L1, L2, h1, h2, rfl⟩⟩)
    · exact .stop (.nil _ _) (Nat.zero_le _)
    · exact .stop b (by omega)
    · exact .go h1 (mem_setS.1 c) (by omega) h2
  · intro h
    cases h with
    | @stop _ _ e _ s _ hc hs => exact .inr ⟨s, e, by omega, .inl hc⟩
    | @go _ q _ e L1 L2 s m _ hc hq hs h2 =>
      refine .inr ⟨s, e, by omega, .inr ⟨q, mem_setS.2 hq, by omega, L1, L2, hc, ?_, rfl⟩⟩
      rwa [show n - s - 1 = m by omega]
end
end Go.Proofs.Ytchhjldopecliaa
namespace Go.Proofs.Ytchhjldopecliaa
open Go.RowKit

/-! ### worlds in which every cell stays -/
structure CM (w w' : World) : Prop where
  size : w.heap.size ≤ w'.heap.size
  cell : ∀ b o v, w.cell? ⟨b, o, none⟩ = some v → w'.cell? ⟨b, o, none⟩ = some v
theorem SlR.cm {α : Type} {w w' : World} {sz : Nat} {R : World → α → List Value → Prop} {A : Option Addr} {n c : Nat} {xs : List α}
    (h : SlR w sz R A n c xs) (hc : CM w w') (hR : ∀ x cs, R w x cs → R w' x cs) : SlR w' sz R A n c xs := by
  obtain ⟨h1, h2, h3, h4⟩ := h
  refine ⟨h1, h2, h3, fun hn => ?_⟩
  obtain ⟨b, off, e, hlt, hx⟩ := h4 hn
  refine ⟨b, off, e, Nat.lt_of_lt_of_le hlt hc.size, fun i x hi => ?_⟩
  obtain ⟨cs, hl, hr, hcell⟩ := hx i x hi
  exact ⟨cs, hl, hR _ _ hr, fun j u hu => hc.cell _ _ _ (hcell j u hu)⟩
theorem CM.strs {w w' : World} (hc : CM w w') {A : Option Addr} {n c : Nat} {xs : List Str} (h : SlR w 1 RStr A n c xs) : SlR w' 1 RStr A n c xs := h.cm hc (fun _ _ h => h)
theorem CM.pcs {w w' : World} (hc : CM w w') {A : Option Addr} {n c : Nat} {xs : List Pc} (h : SlR w 4 RPc A n c xs) : SlR w' 4 RPc A n c xs :=
  h.cm hc (fun _ _ ⟨A, n, c, e, h1, h2⟩ => ⟨A, n, c, e, h1, hc.strs h2⟩)
theorem CM.nxs {w w' : World} (hc : CM w w') {A : Option Addr} {n c : Nat} {xs : List (List Int)} (h : SlR w 1 (RSl 1 RInt) A n c xs) : SlR w' 1 (RSl 1 RInt) A n c xs :=
  h.cm hc (fun _ _ ⟨A, n, c, e, h1⟩ => ⟨A, n, c, e, h1.cm hc (fun _ _ h => h)⟩)

/-! ### the two maps -/
abbrev K3 := Int × Int × Int
def encA (x : K3) : Value := .agg #[.int .i64 x.1, .int .i64 x.2.1, .int .i64 x.2.2]
theorem keyA : KeyOK Try.prog 130 encA := keyOK_a3 Try.underlying130 Try.underlying3 Try.sizeOf3
def arrV (a : List Int) : Value := .agg (a.map (Value.int .i64)).toArray
theorem zero_arr (w : World) : (zeroValue 77).run Try.prog w = .ok (.agg ((List.replicate 16 (0 : Int)).map (Value.int .i64)).toArray) w := by kernel_rfl
/-- What is known of closed walks. -/
def MemC (ps : List Pc) (w : World) (b : Nat) : Prop := ∃ kvs, MapK encA w b kvs ∧ ∀ k r n v, getK (k, r, n) kvs = some v → ∃ (i m : Nat) (p : Pc) (a : List Int), k = (i : Int) ∧ n = (m : Int) ∧ ps[i]? = some p ∧ v = .agg (a.map (Value.int .i64)).toArray ∧ ArrS (fun e L => Cl ps p.nm r m e L) a
/-- What is known of walks that do not return. -/
def MemO (ps : List Pc) (w : World) (b : Nat) : Prop := ∃ kvs, MapK encA w b kvs ∧ ∀ k r n v, getK (k, r, n) kvs = some v → ∃ (i m : Nat) (p : Pc) (x : Int), k = (i : Int) ∧ n = (m : Int) ∧ ps[i]? = some p ∧ v = .int .i64 x ∧ Mx (Opw ps p.nm r m) x
section
variable {ps : List Pc} {w w' : World} {b : Nat}
theorem MemC.same (h : MemC ps w b) (hb : w'.heap[b]? = w.heap[b]?) : MemC ps w' b := by
  obtain ⟨kvs, h1, h2⟩ := h
  exact ⟨kvs, h1.same hb, h2⟩
theorem MemO.same (h : MemO ps w b) (hb : w'.heap[b]? = w.heap[b]?) : MemO ps w' b := by
  obtain ⟨kvs, h1, h2⟩ := h
  exact ⟨kvs, h1.same hb, h2⟩
theorem MemC.lt (h : MemC ps w b) : b < w.heap.size := by obtain ⟨_, h1, _⟩ := h; exact h1.lt
theorem MemO.lt (h : MemO ps w b) : b < w.heap.size := by obtain ⟨_, h1, _⟩ := h; exact h1.lt
theorem MemC.nocell (h : MemC ps w b) (j : Nat) : w.cell? ⟨b, j, none⟩ = none := by
  obtain ⟨kvs, ⟨es, cl, hb, _⟩, _⟩ := h
  simp [World.cell?, hb]
theorem MemO.nocell (h : MemO ps w b) (j : Nat) : w.cell? ⟨b, j, none⟩ = none := by
  obtain ⟨kvs, ⟨es, cl, hb, _⟩, _⟩ := h
  simp [World.cell?, hb]
theorem MemC.look (h : MemC ps w b) {i m : Nat} {p : Pc} (hp : ps[i]? = some p) (r : Int) :
    ∃ (a : List Int) (q : Bool), (Instr.lookup 112 (.map (some b)) (.agg #[.int .i64 (i : Int), .int .i64 r, .int .i64 (m : Int)]) true).run Try.prog w = .ok (.tuple #[.agg (a.map (Value.int .i64)).toArray, .bool q]) w ∧ a.length = 16 ∧ (q = true → ArrS (fun e L => Cl ps p.nm r m e L) a) := by
  obtain ⟨kvs, h1, h2⟩ := h
  have hl := h1.lookup keyA Try.underlying112 (zero_arr w) ((i : Int), r, (m : Int)) true
  rw [if_pos rfl] at hl
  cases hg : getK ((i : Int), r, (m : Int)) kvs with
  | none =>
    rw [hg] at hl
    exact ⟨_, false, hl, by simp, fun h => by cases h⟩
  | some v =>
    rw [hg] at hl
    obtain ⟨i', m', p', a, e1, e2, e3, e4, e5⟩ := h2 _ _ _ _ hg
    obtain rfl : i = i' := by omega
    obtain rfl : m = m' := by omega
    rw [hp] at e3
    injection e3 with e3
    subst e3 e4
    exact ⟨a, true, hl, e5.1, fun _ => e5⟩
theorem MemC.add (h : MemC ps w b) {i m : Nat} {p : Pc} (hp : ps[i]? = some p) (r : Int) {a : List Int} (ha : ArrS (fun e L => Cl ps p.nm r m e L) a) :
    ∃ w', (Instr.mapUpdate 112 (.map (some b)) (.agg #[.int .i64 (i : Int), .int .i64 r, .int .i64 (m : Int)]) (.agg (a.map (Value.int .i64)).toArray)).run Try.prog w = .ok () w' ∧ MemC ps w' b ∧ w.grownBy w' (some b) := by
  obtain ⟨kvs, h1, h2⟩ := h
  obtain ⟨w', r1, r2, r3, _⟩ := h1.update (P := Try.prog) keyA Try.underlying112 ((i : Int), r, (m : Int)) (.agg (a.map (Value.int .i64)).toArray)
  refine ⟨w', r1, ⟨_, r2, fun k' r' n' v hv => ?_⟩, r3⟩
  rw [getK_setK] at hv
  by_cases e : (k', r', n') = ((i : Int), r, (m : Int))
  · rw [if_pos e] at hv
    injection hv with hv
    simp only [Prod.mk.injEq] at e
    obtain ⟨rfl, rfl, rfl⟩ := e
    exact ⟨i, m, p, a, rfl, rfl, hp, hv.symm, ha⟩
  · rw [if_neg e] at hv
    exact h2 _ _ _ _ hv
theorem MemO.look (h : MemO ps w b) {i m : Nat} {p : Pc} (hp : ps[i]? = some p) (r : Int) :
    ∃ (x : Int) (q : Bool), (Instr.lookup 113 (.map (some b)) (.agg #[.int .i64 (i : Int), .int .i64 r, .int .i64 (m : Int)]) true).run Try.prog w = .ok (.tuple #[.int .i64 x, .bool q]) w ∧ (q = true → Mx (Opw ps p.nm r m) x) := by
  obtain ⟨kvs, h1, h2⟩ := h
  have hl := h1.lookup keyA Try.underlying113 (zero_int w) ((i : Int), r, (m : Int)) true
  rw [if_pos rfl] at hl
  cases hg : getK ((i : Int), r, (m : Int)) kvs with
  | none =>
    rw [hg] at hl
    exact ⟨0, false, hl, fun h => by cases h⟩
  | some v =>
    rw [hg] at hl
    obtain ⟨i', m', p', x, e1, e2, e3, e4, e5⟩ := h2 _ _ _ _ hg
    obtain rfl : i = i' := by omega
    obtain rfl : m = m' := by omega
    rw [hp] at e3
    injection e3 with e3
    subst e3 e4
    exact ⟨x, true, hl, fun _ => e5⟩
theorem MemO.add (h : MemO ps w b) {i m : Nat} {p : Pc} (hp : ps[i]? = some p) (r : Int) {x : Int} (hx : Mx (Opw ps p.nm r m) x) :
    ∃ w', (Instr.mapUpdate 113 (.map (some b)) (.agg #[.int .i64 (i : Int), .int .i64 r, .int .i64 (m : Int)]) (.int .i64 x)).run Try.prog w = .ok () w' ∧ MemO ps w' b ∧ w.grownBy w' (some b) := by
  obtain ⟨kvs, h1, h2⟩ := h
  obtain ⟨w', r1, r2, r3, _⟩ := h1.update (P := Try.prog) keyA Try.underlying113 ((i : Int), r, (m : Int)) (.int .i64 x)
  refine ⟨w', r1, ⟨_, r2, fun k' r' n' v hv => ?_⟩, r3⟩
  rw [getK_setK] at hv
  by_cases e : (k', r', n') = ((i : Int), r, (m : Int))
  · rw [if_pos e] at hv
    injection hv with hv
    simp only [Prod.mk.injEq] at e
    obtain ⟨rfl, rfl, rfl⟩ := e
    exact ⟨i, m, p, x, rfl, rfl, hp, hv.symm, hx⟩
  · rw [if_neg e] at hv
    exact h2 _ _ _ _ hv
end

/-! ### the table in memory -/
/-- Whom each procedure calls, by numbers. -/
def nxI (ps : List Pc) : List (List Int) := ps.map (fun p => (setS p.cl).map (fun q => fdx q ps))
structure RwE (ps : List Pc) (w : World) (bw bc bo : Nat) (Ap An : Option Addr) (np cp cn : Nat) : Prop where
  c0 : w.cell? ⟨bw, 0, none⟩ = some (.slice Ap np cp)
  c1 : w.cell? ⟨bw, 1, none⟩ = some (.slice An np cn)
  c2 : w.cell? ⟨bw, 2, none⟩ = some (.map (some bc))
  c3 : w.cell? ⟨bw, 3, none⟩ = some (.map (some bo))
  hp : SlR w 4 RPc Ap np cp ps
  hn : SlR w 1 (RSl 1 RInt) An np cn (nxI ps)
  mc : MemC ps w bc
  mo : MemO ps w bo
  ne : bc ≠ bo
section
variable {ps : List Pc} {w w' : World} {bw bc bo : Nat} {Ap An : Option Addr} {np cp cn : Nat}
theorem RwE.cm (h : RwE ps w bw bc bo Ap An np cp cn) (hc : CM w w') (h1 : MemC ps w' bc) (h2 : MemO ps w' bo) : RwE ps w' bw bc bo Ap An np cp cn :=
  ⟨hc.cell _ _ _ h.c0, hc.cell _ _ _ h.c1, hc.cell _ _ _ h.c2, hc.cell _ _ _ h.c3, hc.pcs h.hp, hc.nxs h.hn, h1, h2, h.ne⟩
/-- The maps' blocks hold no cells. -/
theorem RwE.tw (h : RwE ps w bw bc bo Ap An np cp cn) (ht : Tw bc bo w w') : CM w w' :=
  ⟨ht.size, fun b o v hv => ht.cell hv (fun e => by subst e; rw [h.mc.nocell] at hv; cases hv) (fun e => by subst e; rw [h.mo.nocell] at hv; cases hv)⟩
theorem RwE.below (h : RwE ps w bw bc bo Ap An np cp cn) (hb : Below w.heap.size w w') : RwE ps w' bw bc bo Ap An np cp cn :=
  h.cm (h.tw ⟨hb.os, hb.tape, hb.output, hb.size, fun k hk _ _ => hb.block k hk⟩) (h.mc.same (hb.block _ h.mc.lt)) (h.mo.same (hb.block _ h.mo.lt))
end

set_option maxHeartbeats 1000000 in
theorem r_enter (ps : List Pc) (bw bc bo : Nat) (Ap An : Option Addr) (np cp cn i : Nat) (p : Pc) (room : Int) (w : World) (h : RwE ps w bw bc bo Ap An np cp cn) (hp : ps[i]? = some p) (hf : fnd p.nm ps = some p) (hov : 0 ≤ p.ov) :
    Calls Try.prog 88 #[ptr bw, .int .i64 (i : Int), .int .i64 room] w fun e w' => e = .returned (.tuple #[.int .i64 (eR ps room p.nm), .int .i64 (eL ps room p.nm)]) ∧ w = w' := by
  have hi : i < np := by rw [← h.hp.len]; exact (List.getElem?_eq_some_iff.1 hp).1
  obtain ⟨b, off, p', A1, n1, c1, rfl, hb, hx, hnm, hcl, k0, k1, k2, k3⟩ := h.hp.pc_at i hi
  rw [hp] at hx
  injection hx with hx
  subst hx
  have c0 := h.c0
  have ho : ovOf ps p.nm = p.ov := by unfold ovOf; rw [hf]; rfl
  have HR : Box (eR ps room p.nm = if p.ov = 0 ∨ p.ov = room then room else p.ov) := ⟨by unfold eR entR; rw [ho]; split <;> rfl⟩
  have HL : Box (eL ps room p.nm = if p.ov = 0 ∨ p.ov = room then 0 else 1) := ⟨by unfold eL entR; rw [ho]; split <;> simp⟩
  clear h hp hf hnm hcl k0 k2 k3 ho
  generalize p.ov = o at *
  go_enter Try.func88, Try.ntmps88
  by_cases h0 : o = 0
  · rw [if_pos (.inl h0)] at HR HL
    subst h0
    go_wp2_with fail
    go_ret2
    exact ⟨by rw [HR.out, HL.out]; rfl, rfl⟩
  · have hpos : 0 < o := by omega
    by_cases h1 : o = room
    · rw [if_pos (.inr h1)] at HR HL
      subst h1
      have hne : (o != o) = false := by simp
      go_wp2_with fail
      go_ret2
      exact ⟨by rw [HR.out, HL.out]; rfl, rfl⟩
    · have hne : (o != room) = true := by simpa using h1
      rw [if_neg (by rintro (q | q); exact h0 q; exact h1 q)] at HR HL
      clear h0 h1
      go_wp2_with fail
      go_ret2
      exact ⟨by rw [HR.out, HL.out]; rfl, rfl⟩
end Go.Proofs.Ytchhjldopecliaa
namespace Go.Proofs.Ytchhjldopecliaa
open Go.RowKit

/-! ### arrays of sixteen numbers -/
def arrL (a : List Int) : List Value := a.map (Value.int .i64)
theorem arrL_length (a : List Int) : (arrL a).length = a.length := by simp [arrL]
theorem arrL_get {a : List Int} {i : Nat} (h : i < a.length) : (arrL a)[i]? = some (.int .i64 (a.getD i 0)) := by
  unfold arrL
  rw [List.getElem?_map, List.getElem?_eq_getElem h, List.getD_eq_getElem?_getD, List.getElem?_eq_getElem h]
  rfl
theorem arrL_set (a : List Int) (i : Nat) (v : Int) : (arrL a).set i (.int .i64 v) = arrL (a.set i v) := by
  unfold arrL
  rw [List.map_set]
theorem arrL_one (a : List Int) : (arrL a).toArray.all (·.oneCell') = true := by
  rw [List.all_toArray, List.all_eq_true]
  intro v hv
  obtain ⟨x, _, rfl⟩ := List.mem_map.1 hv
  rfl
theorem size_arr : (Try.prog.info? 77).map (·.size) = some 16 := by kernel_rfl
theorem arr_size {a : List Int} (h : a.length = 16) : (arrL a).toArray.size = 16 := by rw [List.size_toArray, arrL_length, h]
def z16 : List Int := List.replicate 16 0
theorem z16_length : z16.length = 16 := by simp [z16]
theorem zero_arr' (w : World) : (zeroValue 77).run Try.prog w = .ok (.agg (arrL z16).toArray) w := by kernel_rfl
theorem loadV_arr {W : World} {r : Nat} {a : List Int} (h : CellsB W r (arrL a) 77) (ha : a.length = 16) : (loadVar 77 ⟨r, 0, none⟩).run Try.prog W = .ok (.agg (arrL a).toArray) W :=
  run_loadVar_row W r _ _ _ (0, 0) _ h Try.underlying77 rfl (by rw [size_arr, arr_size ha])
theorem store_arr {W : World} {r : Nat} {f g : List Int} (h : CellsB W r (arrL f) 77) (hf : f.length = 16) (hg : g.length = 16) :
    ∃ W', (storeVar 77 ⟨r, 0, none⟩ (.agg (arrL g).toArray)).run Try.prog W = .ok () W' ∧ CellsB W' r (arrL g) 77 ∧ W.grownBy W' (some r) ∧ W'.heap.size = W.heap.size := by
  refine ⟨W.setRow r (arrL g).toArray, ?_, setRow_heap W r _ _ _ _ h, ⟨rfl, rfl, rfl, by simp [World.setRow], fun k hk hne => ?_⟩, by simp [World.setRow]⟩
  · exact run_storeVar_row W r _ _ _ _ h (by rw [size_arr, arr_size hg]) (by rw [arr_size hf, arr_size hg]) (arrL_one g)
  · simp only [World.setRow, Array.getElem?_modify]
    rw [if_neg (fun e => hne (by rw [e]))]
theorem store_arr_new (W : World) {f g : List Int} (hf : f.length = 16) (hg : g.length = 16) : (storeCells ⟨W.heap.size, 0, none⟩ (arrL g) 0).run Try.prog (W.alloc (.cells (arrL f).toArray 77)) = .ok () (W.alloc (.cells (arrL g).toArray 77)) := by
  have := run_storeCells_new (P := Try.prog) W 77 (arrL f).toArray (arrL g).toArray (by rw [size_arr, arr_size hg]) (by rw [arr_size hf, arr_size hg]) (arrL_one g)
  exact this
theorem store_arr_drew (W : World) {f g : List Int} (hf : f.length = 16) (hg : g.length = 16) : (storeCells ⟨W.heap.size, 0, none⟩ (arrL g) 0).run Try.prog (W.alloc (.cells (arrL f).toArray 77)).drew = .ok () (W.alloc (.cells (arrL g).toArray 77)).drew :=
  store_arr_new W.drew hf hg
theorem there_arr (W : World) {f g : List Int} (hf : f.length = 16) (hg : g.length = 16) : (W.alloc (.cells (arrL f).toArray 77)).drew.there W.heap.size 0 (arrL g).length := by
  intro j hj
  rw [arrL_length, hg] at hj
  have h : CellsB (W.alloc (.cells (arrL f).toArray 77)).drew W.heap.size (arrL f) 77 := heap_alloc_new W _
  refine ⟨?_, h.frozen _⟩
  rw [Nat.zero_add, h.cell (arrL_get (by rw [hf]; exact hj))]
  rfl
theorem setCells_arr (W : World) {f g : List Int} (hf : f.length = 16) (hg : g.length = 16) : (W.alloc (.cells (arrL f).toArray 77)).drew.setCells W.heap.size 0 (arrL g) = (W.alloc (.cells (arrL g).toArray 77)).drew := by
  have h1 := store_arr_drew W hf hg
  have h2 := run_storeCells_cells (P := Try.prog) W.heap.size 0 (arrL g) 0 (W.alloc (.cells (arrL f).toArray 77)).drew (fun j hj => by simpa using (there_arr W hf hg j hj).1) (fun j hj => by simp)
    (fun v hv => (Array.all_eq_true_iff_forall_mem.1 (arrL_one g)) v (by simpa using hv))
  simp only [Nat.add_zero] at h2
  rw [h1] at h2
  injection h2 with _ h2
  exact h2.symm
theorem wpL_load_arr {ops : Array Oper} {rest : List Oper} {o : Oper} {ac : Act} {w : World} {Q : Exit → Act → World → Prop} (hgd : o.guard = none) (x : Operand) (ho : o.op = .load 77 x)
    (r : Nat) (a : List Int) (h : CellsB w r (arrL a) 77) (ha : a.length = 16) (hx : ac.eval x = .pointer (some ⟨r, 0, none⟩)) (hK : wpList Try.prog ops Q rest (ac.put o.dst (.agg (arrL a).toArray)) w) : wpList Try.prog ops Q (o :: rest) ac w := by
  refine wpList_load_mid hgd 77 x ho r 0 hx (arrL a) _ (fun j v hv => ?_) Try.underlying77 rfl (by rw [size_arr, arrL_length, ha]) hK
  rw [Nat.zero_add]
  exact h.cell hv
theorem wpL_store_arr {ops : Array Oper} {rest : List Oper} {o : Oper} {ac : Act} {w : World} {Q : Exit → Act → World → Prop} (hgd : o.guard = none) (x y : Operand) (ho : o.op = .store 77 x y)
    (r : Nat) (f g : List Int) (h : CellsB w r (arrL f) 77) (hf : f.length = 16) (hg : g.length = 16) (hx : ac.eval x = .pointer (some ⟨r, 0, none⟩)) (hy : ac.eval y = .agg (arrL g).toArray)
    (hK : ∀ W', CellsB W' r (arrL g) 77 → w.grownBy W' (some r) → W'.heap.size = w.heap.size → wpList Try.prog ops Q rest (ac.put o.dst undef) W') : wpList Try.prog ops Q (o :: rest) ac w := by
  refine wpList_plain hgd fun K hK' => ?_
  obtain ⟨W', h1, h2, h3, h4⟩ := store_arr h hf hg
  unfold Oper.wp execOp
  simp only [ho, hx, hy, Instr.storeAt, Instr.sureAddr, Sem.run_bind, Sem.run_pure, Result.andThen_ok, h1]
  exact hK' _ _ (hK W' h2 h3 h4)
theorem wpStill_load_arr {ops : Array Oper} {rest : List Oper} {o : Oper} {ac : Act} {w : World} {Q : Act → Prop} (hgd : o.guard = none) (x : Operand) (ho : o.op = .load 77 x)
    (r : Nat) (a : List Int) (h : CellsB w r (arrL a) 77) (ha : a.length = 16) (hx : ac.eval x = .pointer (some ⟨r, 0, none⟩)) (hK : wpStill Try.prog ops w Q rest (ac.put o.dst (.agg (arrL a).toArray))) : wpStill Try.prog ops w Q (o :: rest) ac := by
  refine wpStill_step fun K hK' => ?_
  have hwt : Region.wanted o (yielded ops ac.tmps) = true := by simp [Region.wanted, hgd]
  rw [if_pos hwt]
  have h1 := loadV_arr h ha
  have : (execOp ac.eval o).run Try.prog w = .ok (.value (.agg (arrL a).toArray)) w := by
    unfold execOp
    simp only [ho, hx, Instr.loadAt, Instr.sureAddr, Sem.run_bind, Sem.run_pure, Result.andThen_ok, h1]
  unfold Oper.still
  rw [this, Oper.stillUpon_value]
  exact hK' _ hK
/-- A result that lies in a variable. -/
theorem results_cell {P : Program} {fn : Func} {tmps : Array Value} {W : World} {c r : Nat} {t : TypeId} {v : Value} (h : fn.results = #[.cell c t]) (ha : tmps.getD c undef = .pointer (some ⟨r, 0, none⟩)) (hlv : (loadVar t ⟨r, 0, none⟩).run P W = .ok v W) : (results fn tmps).run P W = .ok v W := by
  have ha' : tmps[c]?.getD undef = .pointer (some ⟨r, 0, none⟩) := by rw [← Array.getD_eq_getD_getElem?]; exact ha
  simp [results, h, ha', hlv, asAddr]

/-! ### what lies in memory while around runs -/
structure ArF (ps : List Pc) (w : World) (bc bo b12 : Nat) (key : List Value) (wx : World) (a : List Int) : Prop where
  tw : Tw bc bo w wx
  mc : MemC ps wx bc
  mo : MemO ps wx bo
  k8 : CellsB wx w.heap.size (arrL z16) 77
  k9 : CellsB wx (w.heap.size + 1) key 130
  k12 : CellsB wx b12 (arrL a) 77
  lt : bc < w.heap.size ∧ bo < w.heap.size ∧ w.heap.size + 2 ≤ b12
  len : a.length = 16
theorem CellsB.tw {bc bo : Nat} {w w' : World} {r : Nat} {vs : List Value} {t : TypeId} (h : CellsB w r vs t) (ht : Tw bc bo w w') (h1 : r ≠ bc) (h2 : r ≠ bo) : CellsB w' r vs t := (ht.block r h.lt h1 h2).trans h
theorem CellsB.below {w w' : World} {r : Nat} {vs : List Value} {t : TypeId} (h : CellsB w r vs t) (hb : Below w.heap.size w w') : CellsB w' r vs t := (hb.block r h.lt).trans h
section
variable {ps : List Pc} {w : World} {bc bo b12 : Nat} {key : List Value} {wx wy : World} {a : List Int}
theorem ArF.below (h : ArF ps w bc bo b12 key wx a) (hb : Below wx.heap.size wx wy) : ArF ps w bc bo b12 key wy a :=
  ⟨h.tw.trans ⟨hb.os, hb.tape, hb.output, hb.size, fun k hk _ _ => hb.block k hk⟩, h.mc.same (hb.block _ h.mc.lt), h.mo.same (hb.block _ h.mo.lt), h.k8.below hb, h.k9.below hb, h.k12.below hb, h.lt, h.len⟩
theorem ArF.drew (h : ArF ps w bc bo b12 key wx a) : ArF ps w bc bo b12 key wx.drew a := h.below ⟨rfl, rfl, rfl, Nat.le_refl _, fun _ _ => rfl⟩
theorem ArF.call (h : ArF ps w bc bo b12 key wx a) (ht : Tw bc bo wx wy) (h1 : MemC ps wy bc) (h2 : MemO ps wy bo) : ArF ps w bc bo b12 key wy a := by
  have hl := h.lt
  exact ⟨h.tw.trans ht, h1, h2, h.k8.tw ht (by omega) (by omega), h.k9.tw ht (by omega) (by omega), h.k12.tw ht (by omega) (by omega), h.lt, h.len⟩
theorem ArF.store (h : ArF ps w bc bo b12 key wx a) (j : Nat) (v : Int) : ArF ps w bc bo b12 key (wx.setCell ⟨b12, j, none⟩ (.int .i64 v)) (a.set j v) := by
  have hl := h.lt
  obtain ⟨h1, hg⟩ := h.k12.set j (.int .i64 v)
  rw [arrL_set] at h1
  exact ⟨⟨hg.os.trans h.tw.os, hg.tape.trans h.tw.tape, hg.output.trans h.tw.output, Nat.le_trans h.tw.size hg.size, fun k hk h1 h2 => (hg.block k (Nat.lt_of_lt_of_le hk h.tw.size) (fun e => by injection e with e; omega)).trans (h.tw.block k hk h1 h2)⟩, h.mc.same (hg.block _ h.mc.lt (fun e => by injection e with e; omega)), h.mo.same (hg.block _ h.mo.lt (fun e => by injection e with e; omega)),
    h.k8.kept hg (fun e => by injection e with e; omega), h.k9.kept hg (fun e => by injection e with e; omega), h1, h.lt, by rw [List.length_set]; exact h.len⟩
theorem ArF.rwe (h : ArF ps w bc bo b12 key wx a) {bw : Nat} {Ap An : Option Addr} {np cp cn : Nat} (hE : RwE ps w bw bc bo Ap An np cp cn) : RwE ps wx bw bc bo Ap An np cp cn := hE.cm (hE.tw h.tw) h.mc h.mo
end

/-- What is known of the procedures. -/
structure RwP (ps : List Pc) : Prop where
  ov : ∀ p ∈ ps, 0 ≤ p.ov ∧ p.ov ≤ 15
  fnd : ∀ p ∈ ps, fnd p.nm ps = some p
  there : AllThere ps
  len : ps.length ≤ 100
  calls : ∀ p ∈ ps, p.cl.length ≤ 100
theorem RwE.next {ps : List Pc} {w : World} {bw bc bo : Nat} {Ap An : Option Addr} {np cp cn : Nat} (h : RwE ps w bw bc bo Ap An np cp cn) {i : Nat} {p : Pc} (hp : ps[i]? = some p) :
    ∃ b off A' n' c', An = some ⟨b, off, none⟩ ∧ w.cell? ⟨b, off + i, none⟩ = some (.slice A' n' c') ∧ SlR w 1 RInt A' n' c' ((setS p.cl).map (fun q => fdx q ps)) := by
  obtain ⟨b, off, x, A', n', c', e, _, hx, hc, hs⟩ := h.hn.sl_at i (by rw [← h.hn.len]; unfold nxI; rw [List.length_map]; exact (List.getElem?_eq_some_iff.1 hp).1)
  refine ⟨b, off, A', n', c', e, hc, ?_⟩
  unfold nxI at hx
  rw [List.getElem?_map, hp] at hx
  injection hx with hx
  subst hx
  exact hs
theorem nx_at {ps : List Pc} (hP : RwP ps) {p : Pc} (hp : p ∈ ps) {j : Nat} {x : Int} (hx : ((setS p.cl).map (fun q => fdx q ps))[j]? = some x) :
    ∃ (q : Nat) (pq : Pc), x = q ∧ ps[q]? = some pq ∧ fnd pq.nm ps = some pq ∧ (setS p.cl)[j]? = some pq.nm := by
  rw [List.getElem?_map] at hx
  cases hh : (setS p.cl)[j]? with
  | none => rw [hh] at hx; cases hx
  | some q =>
    rw [hh] at hx
    injection hx with hx
    obtain ⟨pq, hfq⟩ := hP.there p hp q (mem_setS.1 (List.mem_of_getElem? hh))
    obtain ⟨k, hk, hpk⟩ := fdx_found hfq
    obtain ⟨_, rfl⟩ := fnd_some hfq
    exact ⟨k, pq, by rw [← hx]; exact hk, hpk, hfq, rfl⟩
theorem take_snoc {l : List Str} {j : Nat} {q : Str} (h : l[j]? = some q) : l.take (j + 1) = l.take j ++ [q] := by
  rw [List.take_add_one, h]
  rfl

/-- What around is to give, at a number of steps. -/
def ArAt (ps : List Pc) (bw bc bo : Nat) (Ap An : Option Addr) (np cp cn n : Nat) : Prop := ∀ (w : World) (i : Nat) (p : Pc) (room : Int), RwE ps w bw bc bo Ap An np cp cn → ps[i]? = some p → 0 ≤ room ∧ room ≤ 15 →
  Calls Try.prog 110 #[ptr bw, .int .i64 (i : Int), .int .i64 room, .int .i64 (n : Int)] w fun e w' => ∃ a, e = .returned (.agg (arrL a).toArray) ∧ ArrS (fun e L => Cl ps p.nm room n e L) a ∧ RwE ps w' bw bc bo Ap An np cp cn ∧ Tw bc bo w w'

/-- What the first region reads. -/
abbrev RaS (W : World) (bw bc r : Nat) (i room n : Int) : Prop := W.cell? ⟨bw, 2, none⟩ = some (.map (some bc)) ∧ W.cell? ⟨r, 0, none⟩ = some (.int .i64 i) ∧ W.cell? ⟨r, 1, none⟩ = some (.int .i64 room) ∧ W.cell? ⟨r, 2, none⟩ = some (.int .i64 n)
theorem RaS.drew {W : World} {bw bc r : Nat} {i room n : Int} (h : RaS W bw bc r i room n) : RaS W.drew bw bc r i room n := h
theorem RaS.alloc {W : World} {bw bc r : Nat} {i room n : Int} (h : RaS W bw bc r i room n) (o : Obj) : RaS (W.alloc o) bw bc r i room n := by
  obtain ⟨h1, h2, h3, h4⟩ := h
  have k : ∀ {b j : Nat} {v : Value}, W.cell? ⟨b, j, none⟩ = some v → (W.alloc o).cell? ⟨b, j, none⟩ = some v := fun h => cellk (bel_alloc W o) (World.block_lt_of_cell? W _ h) h
  exact ⟨k h1, k h2, k h3, k h4⟩

set_option maxRecDepth 100000 in
set_option maxHeartbeats 8000000 in
theorem r_around (ps : List Pc) (bw bc bo : Nat) (Ap An : Option Addr) (np cp cn : Nat) (hP : RwP ps) : ∀ n, n ≤ 12 → ArAt ps bw bc bo Ap An np cp cn n := by
  intro n
  induction n using Nat.strongRecOn with
  | _ n ih =>
  intro hn w i p room hE hp hroom
  obtain ⟨rm, rfl⟩ := Int.eq_ofNat_of_zero_le hroom.1
  have hrm : rm < 16 := by omega
  have HE := Box.mk hE
  have HP := Box.mk hP
  have IH := Box.mk ih
  have HPI := Box.mk hp
  have hi : i < np := by rw [← hE.hp.len]; exact (List.getElem?_eq_some_iff.1 hp).1
  clear hE hP ih hp
  have hz := zero_arr'
  go_enter Try.func110, Try.ntmps110
  go_upto_region 2 with fail
  have HE2 : Box (RwE ps ((w.alloc (.cells (arrL z16).toArray 77)).alloc (.cells #[.int .i64 (i : Int), .int .i64 (rm : Int), .int .i64 (n : Int)] 130)) bw bc bo Ap An np cp cn) := ⟨(HE.out.below (bel_alloc _ _)).below (bel_alloc _ _)⟩
  have HB2 : Box (Below w.heap.size w ((w.alloc (.cells (arrL z16).toArray 77)).alloc (.cells #[.int .i64 (i : Int), .int .i64 (rm : Int), .int .i64 (n : Int)] 130))) := ⟨bel_alloc2 (bel_alloc _ _) _⟩
  have H82 : Box (CellsB ((w.alloc (.cells (arrL z16).toArray 77)).alloc (.cells #[.int .i64 (i : Int), .int .i64 (rm : Int), .int .i64 (n : Int)] 130)) w.heap.size (arrL z16) 77) := ⟨CellsB.kept (heap_alloc_new w _) (below_gb (bel_alloc _ _) none) (by simp)⟩
  have H92 : Box (CellsB ((w.alloc (.cells (arrL z16).toArray 77)).alloc (.cells #[.int .i64 (i : Int), .int .i64 (rm : Int), .int .i64 (n : Int)] 130)) (w.heap.size + 1) [.int .i64 (i : Int), .int .i64 (rm : Int), .int .i64 (n : Int)] 130) := ⟨by
    have := heap_alloc_new (w.alloc (.cells (arrL z16).toArray 77)) (.cells #[.int .i64 (i : Int), .int .i64 (rm : Int), .int .i64 (n : Int)] 130)
    rw [show (w.alloc (.cells (arrL z16).toArray 77)).heap.size = w.heap.size + 1 by simp] at this
    exact this⟩
  have HS2 : Box (((w.alloc (.cells (arrL z16).toArray 77)).alloc (.cells #[.int .i64 (i : Int), .int .i64 (rm : Int), .int .i64 (n : Int)] 130)).heap.size = w.heap.size + 2) := ⟨by simp⟩
  generalize ((w.alloc (.cells (arrL z16).toArray 77)).alloc (.cells #[.int .i64 (i : Int), .int .i64 (rm : Int), .int .i64 (n : Int)] 130)) = W2 at *
  obtain ⟨a0, q0, hlk0, ha0, hq0⟩ := HE2.out.mc.look (m := n) HPI.out (rm : Int)
  have HA0 := Box.mk ha0
  have HQ0 := Box.mk hq0
  have HLK := Box.mk (fun W (hW : W.heap[bc]? = W2.heap[bc]?) => (show (Instr.lookup 112 (.map (some bc)) (.agg #[.int .i64 (i : Int), .int .i64 (rm : Int), .int .i64 (n : Int)]) true).run Try.prog W = .ok (.tuple #[.agg (arrL a0).toArray, .bool q0]) W from by
    obtain ⟨kvs, h1, h2⟩ := HE2.out.mc
    have e1 := h1.lookup (P := Try.prog) keyA Try.underlying112 (zero_arr W2) ((i : Int), (rm : Int), (n : Int)) true
    have e2 := (h1.same hW).lookup (P := Try.prog) keyA Try.underlying112 (zero_arr W) ((i : Int), (rm : Int), (n : Int)) true
    rw [show (Value.agg #[.int .i64 (i : Int), .int .i64 (rm : Int), .int .i64 (n : Int)]) = encA ((i : Int), (rm : Int), (n : Int)) from rfl] at hlk0 ⊢
    rw [e1] at hlk0
    injection hlk0 with hv
    rw [e2, hv]
    rfl))
  have hl2 : ∀ W, W.heap[bc]? = W2.heap[bc]? → (Instr.lookup 112 (.map (some bc)) (.agg #[.int .i64 (i : Int), .int .i64 (rm : Int), .int .i64 (n : Int)]) true).run Try.prog W = .ok (.tuple #[.agg (arrL a0).toArray, .bool q0]) W := HLK.out
  have hq1 : ∀ v ∈ arrL a0, v.oneCell' = true := fun v hv => (Array.all_eq_true_iff_forall_mem.1 (arrL_one a0)) v (by simpa using hv)
  have hq2 := there_arr W2 z16_length HA0.out
  have hq3 : Option.map (fun x => x.size) (Try.prog.info? 77) = some (arrL a0).length := by rw [arrL_length, HA0.out]; exact size_arr
  have HEQ := Box.mk (setCells_arr W2 z16_length HA0.out)
  have T2 : Box (W2.heap[bc]? = W2.heap[bc]? ∧ RaS W2 bw bc (w.heap.size + 1) i rm n) := ⟨⟨rfl, HE2.out.c2, H92.out.cell rfl, H92.out.cell rfl, H92.out.cell rfl⟩⟩
  have T2a : Box ((W2.alloc (.cells (arrL z16).toArray 77)).heap[bc]? = W2.heap[bc]? ∧ RaS (W2.alloc (.cells (arrL z16).toArray 77)) bw bc (w.heap.size + 1) i rm n) := ⟨⟨Below.heap_alloc _ _ _ HE2.out.mc.lt, T2.out.2.alloc _⟩⟩
  have T2b : Box ((W2.alloc (.cells (arrL a0).toArray 77)).heap[bc]? = W2.heap[bc]? ∧ RaS (W2.alloc (.cells (arrL a0).toArray 77)) bw bc (w.heap.size + 1) i rm n) := ⟨⟨Below.heap_alloc _ _ _ HE2.out.mc.lt, T2.out.2.alloc _⟩⟩
  have T3 : Box (W2.drew.heap[bc]? = W2.heap[bc]? ∧ RaS W2.drew bw bc (w.heap.size + 1) i rm n) := ⟨T2.out⟩
  have T3a : Box ((W2.alloc (.cells (arrL z16).toArray 77)).drew.heap[bc]? = W2.heap[bc]? ∧ RaS (W2.alloc (.cells (arrL z16).toArray 77)).drew bw bc (w.heap.size + 1) i rm n) := ⟨T2a.out⟩
  have T3b : Box ((W2.alloc (.cells (arrL a0).toArray 77)).drew.heap[bc]? = W2.heap[bc]? ∧ RaS (W2.alloc (.cells (arrL a0).toArray 77)).drew bw bc (w.heap.size + 1) i rm n) := ⟨T2b.out⟩
  clear hlk0 ha0 hq0
  go_cut [10, 11] (fun t10 t11 wx => t10 = ptr W2.heap.size ∧ t11 = .bool q0 ∧ wx = (W2.alloc (.cells (arrL a0).toArray 77)).drew)
  case first =>
    go_region_held3 (fun W : World => W.heap[bc]? = W2.heap[bc]? ∧ W.cell? ⟨bw, 2, none⟩ = some (.map (some bc)) ∧ W.cell? ⟨w.heap.size + 1, 0, none⟩ = some (.int .i64 (i : Int)) ∧ W.cell? ⟨w.heap.size + 1, 1, none⟩ = some (.int .i64 (rm : Int)) ∧ W.cell? ⟨w.heap.size + 1, 2, none⟩ = some (.int .i64 (n : Int)))
      (with_reducible first | exact T3.out | exact T3a.out | (rw [HEQ.out]; exact T3b.out)) (fail)
    all_goals
      go_wp2_with fail
      go_meet
      exact ⟨rfl, rfl, HEQ.out⟩
  case rest =>
    obtain ⟨rfl, rfl, rfl⟩ := hcut
    clear hq1 hq2 hq3 HEQ T2 T2a T2b T3 T3a T3b hl2 HLK
    have HBD : Box (Below W2.heap.size W2 (W2.alloc (.cells (arrL a0).toArray 77)).drew) := ⟨by have := bel_alloc W2 (.cells (arrL a0).toArray 77); exact ⟨this.os, this.tape, this.output, this.size, this.block⟩⟩
    have HE3 := Box.mk (HE2.out.below HBD.out)
    have HB3 : Box (Below w.heap.size w (W2.alloc (.cells (arrL a0).toArray 77)).drew) := ⟨by have := bel_alloc2 HB2.out (.cells (arrL a0).toArray 77); exact ⟨this.os, this.tape, this.output, this.size, this.block⟩⟩
    have H83 : Box (CellsB (W2.alloc (.cells (arrL a0).toArray 77)).drew w.heap.size (arrL z16) 77) := ⟨H82.out.below HBD.out⟩
    have H93 : Box (CellsB (W2.alloc (.cells (arrL a0).toArray 77)).drew (w.heap.size + 1) [.int .i64 (i : Int), .int .i64 (rm : Int), .int .i64 (n : Int)] 130) := ⟨H92.out.below HBD.out⟩
    have H103 : Box (CellsB (W2.alloc (.cells (arrL a0).toArray 77)).drew W2.heap.size (arrL a0) 77) := ⟨heap_alloc_new W2 _⟩
    have HS3 : Box ((W2.alloc (.cells (arrL a0).toArray 77)).drew.heap.size = w.heap.size + 3) := ⟨by
      show (W2.alloc (.cells (arrL a0).toArray 77)).heap.size = _
      simp [HS2.out]⟩
    have HLT : Box (bc < w.heap.size ∧ bo < w.heap.size) := ⟨HE.out.mc.lt, HE.out.mo.lt⟩
    generalize (W2.alloc (.cells (arrL a0).toArray 77)).drew = W3 at *
    generalize W2.heap.size = b10 at *
    clear HE2 HB2 H82 H92 HBD
    cases q0 with
    | true =>
      have HAR := Box.mk (HQ0.out rfl)
      have HT3 : Box (Tw bc bo w W3) := ⟨⟨HB3.out.os, HB3.out.tape, HB3.out.output, HB3.out.size, fun k hk _ _ => HB3.out.block k hk⟩⟩
      go_wp2_with (first | (refine wpL_load_arr rfl _ rfl b10 _ H103.out HA0.out rfl ?_) | (refine wpL_store_arr rfl _ _ rfl _ _ _ H83.out z16_length HA0.out rfl rfl ?_; intro W5 h5 hg5 hs5))
      have HE5 : RwE ps W5 bw bc bo Ap An np cp cn := HE.out.cm (HE.out.tw ⟨hg5.os.trans HT3.out.os, hg5.tape.trans HT3.out.tape, hg5.output.trans HT3.out.output, Nat.le_trans HT3.out.size hg5.size, fun k hk h1 h2 => (hg5.block k (Nat.lt_of_lt_of_le hk HT3.out.size) (fun e => by injection e with e; omega)).trans (HT3.out.block k hk h1 h2)⟩) (HE3.out.mc.same (hg5.block _ HE3.out.mc.lt (fun e => by injection e with e; have := HLT.out; omega))) (HE3.out.mo.same (hg5.block _ HE3.out.mo.lt (fun e => by injection e with e; have := HLT.out; omega)))
      refine bodyPost_ret (v := .agg (arrL a0).toArray) ?_ rfl ⟨a0, rfl, HAR.out, HE5, ⟨hg5.os.trans HT3.out.os, hg5.tape.trans HT3.out.tape, hg5.output.trans HT3.out.output, Nat.le_trans HT3.out.size hg5.size, fun k hk h1 h2 => (hg5.block k (Nat.lt_of_lt_of_le hk HT3.out.size) (fun e => by injection e with e; omega)).trans (HT3.out.block k hk h1 h2)⟩⟩
      exact results_cell Try.results110 rfl (loadV_arr h5 HA0.out)
    | false =>
      clear HQ0 H103
      go_upto_region 6 with fail
      have HF0 : Box (ArF ps w bc bo W3.heap.size [.int .i64 (i : Int), .int .i64 (rm : Int), .int .i64 (n : Int)] (W3.alloc (.cells (arrL z16).toArray 77)) z16) := ⟨by
        have hb := bel_alloc W3 (.cells (arrL z16).toArray 77)
        have hb2 := bel_alloc2 HB3.out (.cells (arrL z16).toArray 77)
        exact ⟨⟨hb2.os, hb2.tape, hb2.output, hb2.size, fun k hk _ _ => hb2.block k hk⟩, HE3.out.mc.same (hb.block _ HE3.out.mc.lt), HE3.out.mo.same (hb.block _ HE3.out.mo.lt), H83.out.below hb, H93.out.below hb, heap_alloc_new W3 _, by have := HLT.out; have := HS3.out; omega, z16_length⟩⟩
      have H12 : Box (W3.heap.size = w.heap.size + 3) := HS3
      generalize W3.alloc (.cells (arrL z16).toArray 77) = W4 at *
      generalize W3.heap.size = b12 at *
      clear HE3 HB3 H83 H93 HS3 HLT
      go_wp2_with fail
      go_loopw [13] (fun t13 wx => ∃ (k : Nat) (a : List Int), k ≤ 16 ∧ t13 = .int .i64 k ∧ Box (∀ j, j < k → a.getD j 0 = never) ∧ Box (ArF ps w bc bo b12 [.int .i64 (i : Int), .int .i64 (rm : Int), .int .i64 (n : Int)] wx a)) (fun t13 _ => 16 - (intOf t13).toNat)
      case atStart => exact ⟨0, z16, by omega, rfl, ⟨fun j hj => by omega⟩, HF0⟩
      case round =>
        clear HF0
        obtain ⟨k, a, hk, rfl, HN, HF⟩ := hrel
        have hal := HF.out.len
        by_cases hkl : k < 16
        · have c12 := HF.out.k12.cell (arrL_get (by rw [hal]; exact hkl))
          have f12 := HF.out.k12.frozen k
          have HF2 := Box.mk (HF.out.store k never)
          have HN2 : Box (∀ j, j < k + 1 → (a.set k never).getD j 0 = never) := ⟨fun j hj => by
            rw [List.getD_eq_getElem?_getD, List.getElem?_set]
            by_cases e : k = j
            · rw [if_pos e, if_pos (by omega)]; rfl
            · rw [if_neg e, ← List.getD_eq_getElem?_getD]; exact HN.out j (by omega)⟩
          go_wp2_with fail
          go_roundw
          case rel => exact ⟨k + 1, _, by omega, by go_num, HN2, HF2⟩
          case measure => simp [intOf] <;> omega
        · obtain rfl : k = 16 := by omega
          have hre : a = List.replicate 16 never := by
            apply List.ext_getElem?
            intro j
            rw [List.getElem?_replicate]
            by_cases hj : j < 16
            · rw [if_pos hj]
              have := HN.out j hj
              rw [List.getD_eq_getElem?_getD, List.getElem?_eq_getElem (by omega)] at this
              rw [List.getElem?_eq_getElem (by omega)]
              exact congrArg some this
            · rw [if_neg hj, List.getElem?_eq_none (by omega)]
          subst hre
          clear HN
          go_upto_if 47 with fail
          go_cut [] (fun wx => ∃ a, Box (ArF ps w bc bo b12 [.int .i64 (i : Int), .int .i64 (rm : Int), .int .i64 (n : Int)] wx a) ∧ Box (ArrS (SJ ps p.nm rm n []) a))
          case first =>
            have HIN := Box.mk (ArrS.init (ps := ps) (k := p.nm) (room := (rm : Int)) (n := n) hroom)
            by_cases hn0 : n = 0
            · subst hn0
              rw [if_pos rfl, Int.toNat_natCast] at HIN
              have c12 := HF.out.k12.cell (arrL_get (by rw [hal]; exact hrm))
              have f12 := HF.out.k12.frozen rm
              have HF2 := Box.mk (HF.out.store rm 0)
              go_wp2_with fail
              go_meet
              exact ⟨_, HF2, HIN⟩
            · rw [if_neg hn0] at HIN
              have hn1 : ((n : Int) == 0) = false := by rw [beq_eq_false_iff_ne]; omega
              go_wp2_with fail
              go_meet
              exact ⟨_, HF, HIN⟩
          case rest =>
            obtain ⟨a, HFa, HAa⟩ := hcut
            clear HF
            obtain ⟨bN, oN, Ai, ni, ci, rfl, hcN, hsI⟩ := HE.out.next HPI.out
            have HCN := Box.mk hcN
            have HSI := Box.mk hsI
            have hnl : (setS p.cl).length = ni := by have := hsI.len; rwa [List.length_map] at this
            have hni : ni ≤ 100 := by rw [← hnl]; exact Nat.le_trans (setS_length_le _) (HP.out.calls p (List.mem_of_getElem? HPI.out))
            have HNL := Box.mk hnl
            clear hcN hsI hnl
            go_wp2_with fail
            go_loopw [14, 15, 16, 17, 18, 19, 20, 21, 22, 23, 24] (fun t14 _ _ _ _ _ _ _ _ _ _ wr => ∃ (j : Nat) (a : List Int), j ≤ ni ∧ t14 = .int .i64 j ∧ Box (ArF ps w bc bo b12 [.int .i64 (i : Int), .int .i64 (rm : Int), .int .i64 (n : Int)] wr a) ∧ Box (ArrS (SJ ps p.nm rm n ((setS p.cl).take j)) a)) (fun t14 _ _ _ _ _ _ _ _ _ _ _ => ni - (intOf t14).toNat)
            case atStart => exact ⟨0, a, Nat.zero_le _, rfl, HFa, HAa⟩
            case round =>
              clear HFa HAa
              obtain ⟨j, aj, hj, rfl, HF, HA⟩ := hrel
              have HCM := Box.mk (HE.out.tw HF.out.tw)
              have c1 := HCM.out.cell _ _ _ HE.out.c1
              have cN := HCM.out.cell _ _ _ HCN.out
              by_cases hjl : j < ni
              · obtain ⟨bI, oI, x, rfl, _, hx, hcI⟩ := HSI.out.int_at j hjl
                have cI := HCM.out.cell _ _ _ hcI
                obtain ⟨iq, pq, rfl, hpq, hfq, hq⟩ := nx_at HP.out (List.mem_of_getElem? HPI.out) hx
                have HPQ := Box.mk hpq
                have HQJ := Box.mk hq
                have CE := Box.mk (r_enter ps bw bc bo Ap _ np cp cn iq pq (rm : Int) wr (HF.out.rwe HE.out) hpq hfq (HP.out.ov _ (List.mem_of_getElem? hpq)).1)
                have HRB := Box.mk (eR_bd HP.out.ov hroom pq.nm)
                have HLB := Box.mk (eL_01 ps (rm : Int) pq.nm)
                clear hx hcI hpq hfq hq
                go_wp2_with fail
                refine CE.out.mono ?_
                rintro e wk ⟨rfl, rfl⟩
                clear CE c1 cN cI
                have HA1 : Box (ArrS (SS ps p.nm rm n ((setS p.cl).take j) pq.nm 0) aj) := ⟨HA.out.congr (fun _ _ => SS_zero.symm)⟩
                clear HA HCM
                generalize hgR : eR ps (rm : Int) pq.nm = rq at *
                generalize hgL : eL ps (rm : Int) pq.nm = lq at *
                have HGR := Box.mk hgR
                have HGL := Box.mk hgL
                clear hgR hgL
                go_wp2_with fail
                go_loopw [18, 19, 20, 21, 22, 23, 24] (fun t18 _ _ _ _ _ _ wr => ∃ (s : Nat) (a : List Int), s ≤ n ∧ t18 = .int .i64 s ∧ Box (ArF ps w bc bo b12 [.int .i64 (i : Int), .int .i64 (rm : Int), .int .i64 (n : Int)] wr a) ∧ Box (ArrS (SS ps p.nm rm n ((setS p.cl).take j) pq.nm s) a)) (fun t18 _ _ _ _ _ _ _ => n - (intOf t18).toNat)
                case atStart => exact ⟨0, aj, Nat.zero_le _, rfl, HF, HA1⟩
                case round =>
                  clear HF HA1
                  obtain ⟨s, az, hsn, rfl, HF, HA⟩ := hrel
                  by_cases hs2 : s + 2 ≤ n
                  · have CA := Box.mk (IH.out s (by omega) (by omega) wr iq pq rq (HF.out.rwe HE.out) HPQ.out HRB.out)
                    go_wp2_with fail
                    refine CA.out.mono ?_
                    rintro e w5 ⟨a19, rfl, hA19, hE5, hT5⟩
                    have HA19 := Box.mk hA19
                    have HF5 := Box.mk (HF.out.call hT5 hE5.mc hE5.mo)
                    clear hA19 hE5 hT5 HF CA
                    go_wp2_with (first | (refine wpL_store_arr rfl _ _ rfl _ _ _ (heap_alloc_new w5 _) z16_length HA19.out.1 rfl rfl ?_; intro W6 h6 hg6 hs6))
                    have HB19 : Box (bc < w5.heap.size ∧ bo < w5.heap.size ∧ b12 < w5.heap.size ∧ w5.heap.size < W6.heap.size) := ⟨⟨HF5.out.mc.lt, HF5.out.mo.lt, HF5.out.k12.lt, by rw [hs6]; simp⟩⟩
                    have HF6 := Box.mk (HF5.out.below ((bel_alloc w5 _).grown hg6 (bel_alloc w5 _).size (fun q hq => by injection hq with hq; omega)))
                    have H196 := Box.mk h6
                    have HA6 : Box (ArrS (SR ps p.nm rm n ((setS p.cl).take j) pq.nm s 0) az) := ⟨HA.out.congr (fun _ _ => (SR_zero (fun _ _ _ h => (One_room HP.out.ov hroom h).1)).symm)⟩
                    clear h6 hg6 hs6 HF5 HA
                    generalize w5.heap.size = b19 at *
                    go_loopw [20, 21, 22, 23, 24] (fun t20 _ _ _ _ wr => ∃ (r : Nat) (a : List Int), r ≤ 16 ∧ t20 = .int .i64 r ∧ Box (ArF ps w bc bo b12 [.int .i64 (i : Int), .int .i64 (rm : Int), .int .i64 (n : Int)] wr a) ∧ Box (CellsB wr b19 (arrL a19) 77) ∧ Box (ArrS (SR ps p.nm rm n ((setS p.cl).take j) pq.nm s r) a)) (fun t20 _ _ _ _ _ => 16 - (intOf t20).toNat)
                    case atStart => exact ⟨0, az, Nat.zero_le _, rfl, HF6, H196, HA6⟩
                    case round =>
                      clear HF6 H196 HA6
                      obtain ⟨r, ar, hr16, rfl, HF, H19, HA⟩ := hrel
                      by_cases hr : r < 16
                      · have HBI : Box (Best (Cl ps pq.nm rq s (r : Int)) (a19.getD r 0)) := ⟨HA19.out.2 r hr⟩
                        have c19 := H19.out.cell (arrL_get (by rw [HA19.out.1]; exact hr))
                        have hl19 := HA19.out.1
                        by_cases hv : a19.getD r 0 = never
                        · have HA2 : Box (ArrS (SR ps p.nm rm n ((setS p.cl).take j) pq.nm s (r + 1)) ar) := ⟨HA.out.skipR (by rw [HGR.out]; exact HBI.out) hv⟩
                          rw [hv] at c19
                          have c19 : wr.cell? ⟨b19, r, none⟩ = some (.int .i64 (-1073741824)) := c19
                          clear hv HBI HA
                          go_wp2_with fail
                          go_roundw
                          case rel => exact ⟨r + 1, ar, by omega, by go_num, HF, H19, HA2⟩
                          case measure => simp [intOf] <;> omega
                        · have HNV := Box.mk hv
                          have hvb : (a19.getD r 0 == -1073741824) = false := by rw [beq_eq_false_iff_ne]; exact hv
                          generalize hgx : a19.getD r 0 = x19 at *
                          have HGX := Box.mk hgx
                          have CE := Box.mk (r_enter ps bw bc bo Ap _ np cp cn i p (r : Int) wr (HF.out.rwe HE.out) HPI.out (HP.out.fnd _ (List.mem_of_getElem? HPI.out)) (HP.out.ov _ (List.mem_of_getElem? HPI.out)).1)
                          have HRB2 := Box.mk (eR_bd HP.out.ov (o := (r : Int)) ⟨by omega, by omega⟩ p.nm)
                          have HLB2 := Box.mk (eL_01 ps (r : Int) p.nm)
                          clear hgx hv
                          go_wp2_with fail
                          refine CE.out.mono ?_
                          rintro e wk ⟨rfl, rfl⟩
                          clear CE c19 hvb
                          generalize hgR : eR ps (r : Int) p.nm = rq2 at *
                          generalize hgL : eL ps (r : Int) p.nm = lq2 at *
                          have HGR2 := Box.mk hgR
                          have HGL2 := Box.mk hgL
                          clear hgR hgL
                          have CA := IH.out (n - s - 2) (by omega) (by omega) wr i p rq2 (HF.out.rwe HE.out) HPI.out HRB2.out
                          rw [show ((n - s - 2 : Nat) : Int) = (n : Int) - (s : Int) - 2 by omega] at CA
                          replace CA := Box.mk CA
                          go_wp2_with fail
                          refine CA.out.mono ?_
                          rintro e w7 ⟨a23, rfl, hA23, hE7, hT7⟩
                          have HA23 := Box.mk hA23
                          have HF7 := Box.mk (HF.out.call hT7 hE7.mc hE7.mo)
                          have H197 := Box.mk (H19.out.tw hT7 (by have := HB19.out; omega) (by have := HB19.out; omega))
                          clear hA23 hE7 hT7 HF H19 CA
                          go_wp2_with (first | (refine wpL_store_arr rfl _ _ rfl _ _ _ (heap_alloc_new w7 _) z16_length HA23.out.1 rfl rfl ?_; intro W8 h8 hg8 hs8))
                          have HB23 : Box (bc < w7.heap.size ∧ bo < w7.heap.size ∧ b12 < w7.heap.size ∧ b19 < w7.heap.size ∧ w7.heap.size < W8.heap.size) := ⟨⟨HF7.out.mc.lt, HF7.out.mo.lt, HF7.out.k12.lt, H197.out.lt, by rw [hs8]; simp⟩⟩
                          have hbl := (bel_alloc w7 (.cells (arrL z16).toArray 77)).grown hg8 (bel_alloc w7 _).size (fun q hq => by injection hq with hq; omega)
                          have HF8 := Box.mk (HF7.out.below hbl)
                          have H198 := Box.mk (H197.out.below hbl)
                          have H238 := Box.mk h8
                          have HA8 : Box (ArrS (SE ps p.nm rm n ((setS p.cl).take j) pq.nm s r 0) ar) := ⟨⟨HA.out.1, fun e he => (HA.out.2 e he).congr (fun _ => (SE_zero (by omega)).symm)⟩⟩
                          clear h8 hg8 hs8 HF7 H197 HA hbl
                          generalize w7.heap.size = b23 at *
                          go_loopw [24] (fun t24 wr => ∃ (e : Nat) (a : List Int), e ≤ 16 ∧ t24 = .int .i64 e ∧ Box (ArF ps w bc bo b12 [.int .i64 (i : Int), .int .i64 (rm : Int), .int .i64 (n : Int)] wr a) ∧ Box (CellsB wr b19 (arrL a19) 77) ∧ Box (CellsB wr b23 (arrL a23) 77) ∧ Box (ArrS (SE ps p.nm rm n ((setS p.cl).take j) pq.nm s r e) a)) (fun t24 _ => 16 - (intOf t24).toNat)
                          case atStart => exact ⟨0, ar, Nat.zero_le _, rfl, HF8, H198, H238, HA8⟩
                          case round =>
                            clear HF8 H198 H238 HA8
                            obtain ⟨e, ae, he16, rfl, HF, H19, H23, HA⟩ := hrel
                            by_cases he : e < 16
                            · have HBT : Box (Best (Cl ps p.nm rq2 (n - s - 2) (e : Int)) (a23.getD e 0)) := ⟨HA23.out.2 e he⟩
                              have c23 := H23.out.cell (arrL_get (by rw [HA23.out.1]; exact he))
                              by_cases hv : a23.getD e 0 = never
                              · have HA2 : Box (ArrS (SE ps p.nm rm n ((setS p.cl).take j) pq.nm s r (e + 1)) ae) := ⟨HA.out.skip (by rw [HGR2.out]; exact HBT.out) hv⟩
                                rw [hv] at c23
                                have c23 : wr.cell? ⟨b23, e, none⟩ = some (.int .i64 (-1073741824)) := c23
                                clear hv HBT HA
                                go_wp2_with fail
                                go_roundw
                                case rel => exact ⟨e + 1, ae, by omega, by go_num, HF, H19, H23, HA2⟩
                                case measure => simp [intOf] <;> omega
                              · have HNT := Box.mk hv
                                have hvb : (a23.getD e 0 != -1073741824) = true := by rw [bne_iff_ne]; exact hv
                                generalize hgx : a23.getD e 0 = x23 at *
                                have HGX2 := Box.mk hgx
                                clear hgx hv
                                go_upto_region 31 with fail
                                have c12 := HF.out.k12.cell (arrL_get (by rw [HF.out.len]; exact he))
                                have HAN := Box.mk (HA.out.step hs2 (by rw [HGR.out]; exact HBI.out) HNV.out (by rw [HGR2.out]; exact HBT.out) HNT.out)
                                rw [HGL.out, HGL2.out] at HAN
                                have hi1 := (HBI.out.some HNV.out).1
                                have hi2 := (HBT.out.some HNT.out).1
                                have hb1 := Cl_ge hi1
                                have hb2 := Cl_ge hi2
                                have c19 := H19.out.cell (arrL_get (by rw [HA19.out.1]; exact hr))
                                rw [HGX.out] at c19
                                have HFd : Box (ArF ps w bc bo b12 [.int .i64 (i : Int), .int .i64 (rm : Int), .int .i64 (n : Int)] wr.drew ae) := ⟨HF.out.drew⟩
                                have H19d : Box (CellsB wr.drew b19 (arrL a19) 77) := ⟨H19.out⟩
                                have H23d : Box (CellsB wr.drew b23 (arrL a23) 77) := ⟨H23.out⟩
                                generalize hgy : ae.getD e 0 = x12 at *
                                have HGY := Box.mk hgy
                                have T9 : Box (wr.cell? ⟨b12, e, none⟩ = some (.int .i64 x12) ∧ wr.cell? ⟨b19, r, none⟩ = some (.int .i64 x19) ∧ wr.cell? ⟨b23, e, none⟩ = some (.int .i64 x23)) := ⟨⟨c12, c19, c23⟩⟩
                                clear c12 c19 c23 hgy HF H19 H23 HA hi1 hi2
                                refine wp_region_head (hd := ?hdle) (tl := ?tlle) (S := fun W => W.cell? ⟨b12, e, none⟩ = some (.int .i64 x12) ∧ W.cell? ⟨b19, r, none⟩ = some (.int .i64 x19) ∧ W.cell? ⟨b23, e, none⟩ = some (.int .i64 x23)) 17 (by kernel_rfl) (by kernel_rfl) ?hde ?tle T9.out (fun hHeld => ?walke)
                                case hde => simp only [List.take_succ_cons, List.take_zero] <;> rfl
                                case tle => simp only [List.drop_succ_cons, List.drop_zero] <;> rfl
                                generalize wr.drew = Wd at *
                                refine wpAnyH_take (i := 0) (oi := ?oie1) (v := ?ve1) ?hoe1 (by kernel_rfl) (by kernel_rfl) (by kernel_rfl) ?hQe1 (Or.inl ⟨?hge1, ?hye1⟩) hHeld ?reste1
                                case hoe1 => simp only [List.getElem?_toArray, List.getElem?_cons_zero] <;> rfl
                                case hQe1 => exact fun _ _ _ h => h
                                case hge1 => rfl
                                case hye1 =>
                                  intro w hSw
                                  obtain ⟨a1, a2, a3⟩ := hSw
                                  go_simp <;> with_reducible rfl
                                try simp only [Act.put, List.setIfInBounds_toArray, List.set_cons_zero, List.set_cons_succ]
                                refine wpAnyH_take (i := 1) (oi := ?oie2) (v := ?ve2) ?hoe2 (by kernel_rfl) (by kernel_rfl) (by kernel_rfl) ?hQe2 (Or.inl ⟨?hge2, ?hye2⟩) hHeld ?reste2
                                case hoe2 => simp only [List.getElem?_toArray, List.getElem?_cons_succ, List.getElem?_cons_zero] <;> rfl
                                case hQe2 => exact fun _ _ _ h => h
                                case hge2 => rfl
                                case hye2 =>
                                  intro w hSw
                                  obtain ⟨a1, a2, a3⟩ := hSw
                                  go_simp <;> with_reducible rfl
                                try simp only [Act.put, List.setIfInBounds_toArray, List.set_cons_zero, List.set_cons_succ]
                                refine wpAnyH_take (i := 2) (oi := ?oie3) (v := ?ve3) ?hoe3 (by kernel_rfl) (by kernel_rfl) (by kernel_rfl) ?hQe3 (Or.inl ⟨?hge3, ?hye3⟩) hHeld ?reste3
                                case hoe3 => simp only [List.getElem?_toArray, List.getElem?_cons_succ, List.getElem?_cons_zero] <;> rfl
                                case hQe3 => exact fun _ _ _ h => h
                                case hge3 => rfl
                                case hye3 =>
                                  intro w hSw
                                  obtain ⟨a1, a2, a3⟩ := hSw
                                  go_simp <;> with_reducible rfl
                                try simp only [Act.put, List.setIfInBounds_toArray, List.set_cons_zero, List.set_cons_succ]
                                refine wpAnyH_take (i := 3) (oi := ?oie4) (v := ?ve4) ?hoe4 (by kernel_rfl) (by kernel_rfl) (by kernel_rfl) ?hQe4 (Or.inl ⟨?hge4, ?hye4⟩) hHeld ?reste4
                                case hoe4 => simp only [List.getElem?_toArray, List.getElem?_cons_succ, List.getElem?_cons_zero] <;> rfl
                                case hQe4 => exact fun _ _ _ h => h
                                case hge4 => rfl
                                case hye4 =>
                                  intro w hSw
                                  obtain ⟨a1, a2, a3⟩ := hSw
                                  go_simp <;> with_reducible rfl
                                try simp only [Act.put, List.setIfInBounds_toArray, List.set_cons_zero, List.set_cons_succ]
                                refine wpAnyH_take (i := 4) (oi := ?oie5) (v := ?ve5) ?hoe5 (by kernel_rfl) (by kernel_rfl) (by kernel_rfl) ?hQe5 (Or.inl ⟨?hge5, ?hye5⟩) hHeld ?reste5
                                case hoe5 => simp only [List.getElem?_toArray, List.getElem?_cons_succ, List.getElem?_cons_zero] <;> rfl
                                case hQe5 => exact fun _ _ _ h => h
                                case hge5 => rfl
                                case hye5 =>
                                  intro w hSw
                                  obtain ⟨a1, a2, a3⟩ := hSw
                                  go_simp <;> with_reducible rfl
                                try simp only [Act.put, List.setIfInBounds_toArray, List.set_cons_zero, List.set_cons_succ]
                                refine wpAnyH_take (i := 5) (oi := ?oie6) (v := ?ve6) ?hoe6 (by kernel_rfl) (by kernel_rfl) (by kernel_rfl) ?hQe6 (Or.inl ⟨?hge6, ?hye6⟩) hHeld ?reste6
                                case hoe6 => simp only [List.getElem?_toArray, List.getElem?_cons_succ, List.getElem?_cons_zero] <;> rfl
                                case hQe6 => exact fun _ _ _ h => h
                                case hge6 => rfl
                                case hye6 =>
                                  intro w hSw
                                  obtain ⟨a1, a2, a3⟩ := hSw
                                  go_simp <;> with_reducible rfl
                                try simp only [Act.put, List.setIfInBounds_toArray, List.set_cons_zero, List.set_cons_succ]
                                refine wpAnyH_take (i := 6) (oi := ?oie7) (v := ?ve7) ?hoe7 (by kernel_rfl) (by kernel_rfl) (by kernel_rfl) ?hQe7 (Or.inl ⟨?hge7, ?hye7⟩) hHeld ?reste7
                                case hoe7 => simp only [List.getElem?_toArray, List.getElem?_cons_succ, List.getElem?_cons_zero] <;> rfl
                                case hQe7 => exact fun _ _ _ h => h
                                case hge7 => rfl
                                case hye7 =>
                                  intro w hSw
                                  obtain ⟨a1, a2, a3⟩ := hSw
                                  go_simp <;> with_reducible rfl
                                try simp only [Act.put, List.setIfInBounds_toArray, List.set_cons_zero, List.set_cons_succ]
                                refine wpAnyH_take (i := 7) (oi := ?oie8) (v := ?ve8) ?hoe8 (by kernel_rfl) (by kernel_rfl) (by kernel_rfl) ?hQe8 (Or.inl ⟨?hge8, ?hye8⟩) hHeld ?reste8
                                case hoe8 => simp only [List.getElem?_toArray, List.getElem?_cons_succ, List.getElem?_cons_zero] <;> rfl
                                case hQe8 => exact fun _ _ _ h => h
                                case hge8 => rfl
                                case hye8 =>
                                  intro w hSw
                                  obtain ⟨a1, a2, a3⟩ := hSw
                                  go_simp <;> with_reducible rfl
                                try simp only [Act.put, List.setIfInBounds_toArray, List.set_cons_zero, List.set_cons_succ]
                                refine wpAnyH_take (i := 8) (oi := ?oie9) (v := ?ve9) ?hoe9 (by kernel_rfl) (by kernel_rfl) (by kernel_rfl) ?hQe9 (Or.inl ⟨?hge9, ?hye9⟩) hHeld ?reste9
                                case hoe9 => simp only [List.getElem?_toArray, List.getElem?_cons_succ, List.getElem?_cons_zero] <;> rfl
                                case hQe9 => exact fun _ _ _ h => h
                                case hge9 => rfl
                                case hye9 =>
                                  intro w hSw
                                  obtain ⟨a1, a2, a3⟩ := hSw
                                  go_simp <;> with_reducible rfl
                                try simp only [Act.put, List.setIfInBounds_toArray, List.set_cons_zero, List.set_cons_succ]
                                refine wpAnyH_take (i := 9) (oi := ?oie10) (v := ?ve10) ?hoe10 (by kernel_rfl) (by kernel_rfl) (by kernel_rfl) ?hQe10 (Or.inl ⟨?hge10, ?hye10⟩) hHeld ?reste10
                                case hoe10 => simp only [List.getElem?_toArray, List.getElem?_cons_succ, List.getElem?_cons_zero] <;> rfl
                                case hQe10 => exact fun _ _ _ h => h
                                case hge10 => rfl
                                case hye10 =>
                                  intro w hSw
                                  obtain ⟨a1, a2, a3⟩ := hSw
                                  go_simp <;> with_reducible rfl
                                try simp only [Act.put, List.setIfInBounds_toArray, List.set_cons_zero, List.set_cons_succ]
                                refine wpAnyH_take (i := 10) (oi := ?oie11) (v := ?ve11) ?hoe11 (by kernel_rfl) (by kernel_rfl) (by kernel_rfl) ?hQe11 (Or.inl ⟨?hge11, ?hye11⟩) hHeld ?reste11
                                case hoe11 => simp only [List.getElem?_toArray, List.getElem?_cons_succ, List.getElem?_cons_zero] <;> rfl
                                case hQe11 => exact fun _ _ _ h => h
                                case hge11 => rfl
                                case hye11 =>
                                  intro w hSw
                                  obtain ⟨a1, a2, a3⟩ := hSw
                                  go_simp <;> with_reducible rfl
                                try simp only [Act.put, List.setIfInBounds_toArray, List.set_cons_zero, List.set_cons_succ]
                                refine wpAnyH_take (i := 11) (oi := ?oie12) (v := ?ve12) ?hoe12 (by kernel_rfl) (by kernel_rfl) (by kernel_rfl) ?hQe12 (Or.inl ⟨?hge12, ?hye12⟩) hHeld ?reste12
                                case hoe12 => simp only [List.getElem?_toArray, List.getElem?_cons_succ, List.getElem?_cons_zero] <;> rfl
                                case hQe12 => exact fun _ _ _ h => h
                                case hge12 => rfl
                                case hye12 =>
                                  intro w hSw
                                  obtain ⟨a1, a2, a3⟩ := hSw
                                  go_simp <;> with_reducible rfl
                                try simp only [Act.put, List.setIfInBounds_toArray, List.set_cons_zero, List.set_cons_succ]
                                refine wpAnyH_take (i := 12) (oi := ?oie13) (v := ?ve13) ?hoe13 (by kernel_rfl) (by kernel_rfl) (by kernel_rfl) ?hQe13 (Or.inl ⟨?hge13, ?hye13⟩) hHeld ?reste13
                                case hoe13 => simp only [List.getElem?_toArray, List.getElem?_cons_succ, List.getElem?_cons_zero] <;> rfl
                                case hQe13 => exact fun _ _ _ h => h
                                case hge13 => rfl
                                case hye13 =>
                                  intro w hSw
                                  obtain ⟨a1, a2, a3⟩ := hSw
                                  go_simp <;> with_reducible rfl
                                try simp only [Act.put, List.setIfInBounds_toArray, List.set_cons_zero, List.set_cons_succ]
                                refine wpAnyH_take (i := 13) (oi := ?oie14) (v := ?ve14) ?hoe14 (by kernel_rfl) (by kernel_rfl) (by kernel_rfl) ?hQe14 (Or.inl ⟨?hge14, ?hye14⟩) hHeld ?reste14
                                case hoe14 => simp only [List.getElem?_toArray, List.getElem?_cons_succ, List.getElem?_cons_zero] <;> rfl
                                case hQe14 => exact fun _ _ _ h => h
                                case hge14 => rfl
                                case hye14 =>
                                  intro w hSw
                                  obtain ⟨a1, a2, a3⟩ := hSw
                                  go_simp <;> with_reducible rfl
                                try simp only [Act.put, List.setIfInBounds_toArray, List.set_cons_zero, List.set_cons_succ]
                                refine wpAnyH_take (i := 14) (oi := ?oie15) (v := ?ve15) ?hoe15 (by kernel_rfl) (by kernel_rfl) (by kernel_rfl) ?hQe15 (Or.inl ⟨?hge15, ?hye15⟩) hHeld ?reste15
                                case hoe15 => simp only [List.getElem?_toArray, List.getElem?_cons_succ, List.getElem?_cons_zero] <;> rfl
                                case hQe15 => exact fun _ _ _ h => h
                                case hge15 => rfl
                                case hye15 =>
                                  intro w hSw
                                  obtain ⟨a1, a2, a3⟩ := hSw
                                  go_simp <;> with_reducible rfl
                                try simp only [Act.put, List.setIfInBounds_toArray, List.set_cons_zero, List.set_cons_succ]
                                refine wpAnyH_take (i := 15) (oi := ?oie16) (v := ?ve16) ?hoe16 (by kernel_rfl) (by kernel_rfl) (by kernel_rfl) ?hQe16 (Or.inl ⟨?hge16, ?hye16⟩) hHeld ?reste16
                                case hoe16 => simp only [List.getElem?_toArray, List.getElem?_cons_succ, List.getElem?_cons_zero] <;> rfl
                                case hQe16 => exact fun _ _ _ h => h
                                case hge16 => rfl
                                case hye16 =>
                                  intro w hSw
                                  obtain ⟨a1, a2, a3⟩ := hSw
                                  go_simp <;> with_reducible rfl
                                try simp only [Act.put, List.setIfInBounds_toArray, List.set_cons_zero, List.set_cons_succ]
                                refine wpAnyH_take (i := 16) (oi := ?oie17) (v := ?ve17) ?hoe17 (by kernel_rfl) (by kernel_rfl) (by kernel_rfl) ?hQe17 (Or.inl ⟨?hge17, ?hye17⟩) hHeld ?reste17
                                case hoe17 => simp only [List.getElem?_toArray, List.getElem?_cons_succ, List.getElem?_cons_zero] <;> rfl
                                case hQe17 => exact fun _ _ _ h => h
                                case hge17 => rfl
                                case hye17 =>
                                  intro w hSw
                                  obtain ⟨a1, a2, a3⟩ := hSw
                                  go_simp <;> with_reducible rfl
                                try simp only [Act.put, List.setIfInBounds_toArray, List.set_cons_zero, List.set_cons_succ]
                                refine wpAnyH_done (by kernel_rfl) ?_ _
                                simp only [headQ]
                                have hw1 : IntKind.i64.wrap (lq + x19) = lq + x19 := wrap_i64 (by have := HLB.out; omega) (by have := HLB.out; omega)
                                have hw2 : IntKind.i64.wrap (lq + x19 + lq2) = lq + x19 + lq2 := wrap_i64 (by have := HLB.out; have := HLB2.out; omega) (by have := HLB.out; have := HLB2.out; omega)
                                have hw3 : IntKind.i64.wrap (lq + x19 + lq2 + x23) = lq + x19 + lq2 + x23 := wrap_i64 (by have := HLB.out; have := HLB2.out; omega) (by have := HLB.out; have := HLB2.out; omega)
                                simp only [hw1, hw2, hw3]
                                generalize lq + x19 + lq2 + x23 = y at *
                                have c12 := HFd.out.k12.cell (arrL_get (by rw [HFd.out.len]; exact he))
                                have f12 := HFd.out.k12.frozen e
                                rw [HGY.out] at c12
                                have HFN := Box.mk (HFd.out.store e (max x12 y))
                                obtain ⟨_, hgN⟩ := HFd.out.k12.set e (.int .i64 (max x12 y))
                                have H19N := Box.mk (H19d.out.kept hgN (fun e => by injection e with e; have := HB19.out; omega))
                                have H23N := Box.mk (H23d.out.kept hgN (fun e => by injection e with e; have := HB23.out; omega))
                                clear hw1 hw2 hw3 hb1 hb2 hgN
                                go_wp2_with fail
                                go_roundw
                                case rel => exact ⟨e + 1, _, by omega, by go_num, HFN, H19N, H23N, HAN⟩
                                case measure => simp [intOf] <;> omega
                            · obtain rfl : e = 16 := by omega
                              have HA2 : Box (ArrS (SR ps p.nm rm n ((setS p.cl).take j) pq.nm s (r + 1)) ae) := ⟨⟨HA.out.1, fun e he => (HA.out.2 e he).congr (fun _ => SE_done (by omega))⟩⟩
                              clear HA H23
                              go_wp2_with fail
                              go_roundw
                              case rel => exact ⟨r + 1, ae, by omega, by go_num, HF, H19, HA2⟩
                              case measure => simp [intOf] <;> omega
                      · obtain rfl : r = 16 := by omega
                        have HA2 : Box (ArrS (SS ps p.nm rm n ((setS p.cl).take j) pq.nm (s + 1)) ar) := ⟨HA.out.congr (fun _ _ => SR_done (fun _ _ _ h => (One_room HP.out.ov hroom h).2))⟩
                        clear HA H19
                        go_wp2_with fail
                        go_roundw
                        case rel => exact ⟨s + 1, ar, by omega, by go_num, HF, HA2⟩
                        case measure => simp [intOf] <;> omega
                  · have HA2 : Box (ArrS (SJ ps p.nm rm n ((setS p.cl).take (j + 1))) az) := ⟨by rw [take_snoc HQJ.out]; exact HA.out.congr (fun _ _ => SS_done (by omega))⟩
                    clear HA
                    go_wp2_with fail
                    refine ⟨?_, ?measure⟩
                    iterate 99 (apply Exists.intro)
                    refine ⟨?rel2, rfl⟩
                    case rel2 => exact ⟨j + 1, az, by omega, by go_num, HF, HA2⟩
                    case measure => simp [intOf] <;> omega
              · obtain rfl : j = ni := by omega
                have HAF : Box (ArrS (fun e L => Cl ps p.nm (rm : Int) n e L) aj) := ⟨HA.out.congr (fun _ _ => by
                  rw [← HNL.out, List.take_length, ← SJ_all]
                  have : clOf ps p.nm = p.cl := by unfold clOf; rw [HP.out.fnd _ (List.mem_of_getElem? HPI.out)]; rfl
                  rw [this])⟩
                clear HA
                go_upto_region 32 with fail
                have c1 := (HE.out.tw HF.out.tw).cell _ _ _ HE.out.c2
                have k0 := HF.out.k9.cell (j := 0) rfl
                have k1 := HF.out.k9.cell (j := 1) rfl
                have k2 := HF.out.k9.cell (j := 2) rfl
                have hld := loadV_arr HF.out.k12 HF.out.len
                have hld' := loadV_arr (W := wr.drew) HF.out.k12 HF.out.len
                obtain ⟨W9, hup, hM9, hG9⟩ := HF.out.drew.mc.add HPI.out (rm : Int) HAF.out
                have hup : (Instr.mapUpdate 112 (.map (some bc)) (.agg #[.int .i64 (i : Int), .int .i64 (rm : Int), .int .i64 (n : Int)]) (.agg (arrL aj).toArray)).run Try.prog wr.drew = .ok () W9 := hup
                have HM9 := Box.mk hM9
                have hlt := HF.out.lt
                have H129 := Box.mk (HF.out.drew.k12.kept hG9 (fun e => by injection e with e; omega))
                have H89 := Box.mk (HF.out.drew.k8.kept hG9 (fun e => by injection e with e; omega))
                have HT9 := Box.mk (HF.out.drew.tw.trans (Tw.of hG9 (fun r e => by injection e with e; exact .inl e.symm)))
                have HMO9 : Box (MemO ps W9 bo) := ⟨HF.out.drew.mo.same (hG9.block _ HF.out.drew.mo.lt (fun e => by injection e with e; exact HE.out.ne e.symm))⟩
                have hal := HF.out.len
                have H12d : Box (CellsB wr.drew b12 (arrL aj) 77) := ⟨HF.out.k12⟩
                clear hM9 hG9 HF
                go_still_tail 6, (by kernel_rfl)
                refine wpStill_load_arr rfl _ rfl b12 aj H12d.out hal rfl ?_
                refine wpStill_nil ?_
                go_wp2_with (first | (refine wpL_load_arr rfl _ rfl b12 _ H129.out hal rfl ?_) | (refine wpL_store_arr rfl _ _ rfl _ _ _ H89.out z16_length hal rfl rfl ?_; intro W5 h5 hg5 hs5))
                have HT10 : Tw bc bo w W5 := ⟨hg5.os.trans HT9.out.os, hg5.tape.trans HT9.out.tape, hg5.output.trans HT9.out.output, Nat.le_trans HT9.out.size hg5.size, fun k hk h1 h2 => (hg5.block k (Nat.lt_of_lt_of_le hk HT9.out.size) (fun e => by injection e with e; omega)).trans (HT9.out.block k hk h1 h2)⟩
                have HE5 : RwE ps W5 bw bc bo Ap (some ⟨bN, oN, none⟩) np cp cn := HE.out.cm (HE.out.tw HT10) (HM9.out.same (hg5.block _ HM9.out.lt (fun e => by injection e with e; omega))) (HMO9.out.same (hg5.block _ HMO9.out.lt (fun e => by injection e with e; omega)))
                refine bodyPost_ret (v := .agg (arrL aj).toArray) ?_ rfl ⟨aj, rfl, HAF.out, HE5, HT10⟩
                exact results_cell Try.results110 rfl (loadV_arr h5 hal)
end Go.Proofs.Ytchhjldopecliaa
namespace Go.Proofs.Ytchhjldopecliaa
open Go.RowKit

theorem below_tw {bc bo : Nat} {w w' : World} (h : Below w.heap.size w w') : Tw bc bo w w' := ⟨h.os, h.tape, h.output, h.size, fun k hk _ _ => h.block k hk⟩
theorem RwE.drew {ps : List Pc} {w : World} {bw bc bo : Nat} {Ap An : Option Addr} {np cp cn : Nat} (h : RwE ps w bw bc bo Ap An np cp cn) : RwE ps w.drew bw bc bo Ap An np cp cn := h.below ⟨rfl, rfl, rfl, Nat.le_refl _, fun _ _ => rfl⟩
/-- What open is to give, at a number of steps. -/
def OpAt (ps : List Pc) (bw bc bo : Nat) (Ap An : Option Addr) (np cp cn n : Nat) : Prop := ∀ (w : World) (i : Nat) (p : Pc) (room : Int), RwE ps w bw bc bo Ap An np cp cn → ps[i]? = some p → 0 ≤ room ∧ room ≤ 15 →
  Calls Try.prog 89 #[ptr bw, .int .i64 (i : Int), .int .i64 room, .int .i64 (n : Int)] w fun e w' => ∃ v, e = .returned (.int .i64 v) ∧ Mx (Opw ps p.nm room n) v ∧ RwE ps w' bw bc bo Ap An np cp cn ∧ Tw bc bo w w'
theorem OQ_end {ps : List Pc} {k : Str} {room : Int} {n s r j ni : Nat} {v : Int} (h : Mx (OQ ps k room n s r ((setS (clOf ps k)).take j)) v) (hl : (setS (clOf ps k)).length = ni) (hj : s < n → j = ni) (hj' : ¬ s < n → j = 0) : Mx (OR ps k room n s (r + 1)) v := by
  have e : (setS (clOf ps k)).take j = if s < n then setS (clOf ps k) else [] := by
    by_cases hs : s < n
    · rw [if_pos hs, hj hs, ← hl, List.take_length]
    · rw [if_neg hs, hj' hs]; rfl
  rw [e] at h
  exact h.congr fun L => ⟨OQ_done, OQ_done'⟩

set_option maxRecDepth 100000 in
set_option maxHeartbeats 8000000 in
theorem r_open (ps : List Pc) (bw bc bo : Nat) (Ap An : Option Addr) (np cp cn : Nat) (hP : RwP ps) : ∀ n, n ≤ 12 → OpAt ps bw bc bo Ap An np cp cn n := by
  intro n
  induction n using Nat.strongRecOn with
  | _ n ih =>
  intro hn w i p room hE hp hroom
  obtain ⟨rm, rfl⟩ := Int.eq_ofNat_of_zero_le hroom.1
  have hrm : rm < 16 := by omega
  have HE := Box.mk hE
  have HP := Box.mk hP
  have IH := Box.mk ih
  have HPI := Box.mk hp
  have HAR := Box.mk (r_around ps bw bc bo Ap An np cp cn hP)
  have hi : i < np := by rw [← hE.hp.len]; exact (List.getElem?_eq_some_iff.1 hp).1
  have HCO : Box (clOf ps p.nm = p.cl) := ⟨by unfold clOf; rw [hP.fnd _ (List.mem_of_getElem? hp)]; rfl⟩
  clear hE hP ih hp
  have hz := zero_arr'
  go_enter Try.func89, Try.ntmps89
  go_upto_region 2 with fail
  have HB2 := Box.mk (bel_alloc w (.cells #[.int .i64 (i : Int), .int .i64 (rm : Int), .int .i64 (n : Int)] 130))
  have HE2 := Box.mk (HE.out.below HB2.out)
  have H92 : Box (CellsB (w.alloc (.cells #[.int .i64 (i : Int), .int .i64 (rm : Int), .int .i64 (n : Int)] 130)) w.heap.size [.int .i64 (i : Int), .int .i64 (rm : Int), .int .i64 (n : Int)] 130) := ⟨heap_alloc_new w _⟩
  have HLT : Box (bc < w.heap.size ∧ bo < w.heap.size) := ⟨HE.out.mc.lt, HE.out.mo.lt⟩
  generalize (w.alloc (.cells #[.int .i64 (i : Int), .int .i64 (rm : Int), .int .i64 (n : Int)] 130)) = W2 at *
  obtain ⟨x0, q0, hlk0, hq0⟩ := HE2.out.mo.look (m := n) HPI.out (rm : Int)
  have HQ0 := Box.mk hq0
  have hl2 : ∀ W, W.heap[bo]? = W2.heap[bo]? → (Instr.lookup 113 (.map (some bo)) (.agg #[.int .i64 (i : Int), .int .i64 (rm : Int), .int .i64 (n : Int)]) true).run Try.prog W = .ok (.tuple #[.int .i64 x0, .bool q0]) W := fun W hW => by
    obtain ⟨kvs, h1, h2⟩ := HE2.out.mo
    have e1 := h1.lookup (P := Try.prog) keyA Try.underlying113 (zero_int W2) ((i : Int), (rm : Int), (n : Int)) true
    have e2 := (h1.same hW).lookup (P := Try.prog) keyA Try.underlying113 (zero_int W) ((i : Int), (rm : Int), (n : Int)) true
    rw [show (Value.agg #[.int .i64 (i : Int), .int .i64 (rm : Int), .int .i64 (n : Int)]) = encA ((i : Int), (rm : Int), (n : Int)) from rfl] at hlk0 ⊢
    rw [e1] at hlk0
    injection hlk0 with hv
    rw [e2, hv]
  have T3 : Box (W2.drew.heap[bo]? = W2.heap[bo]? ∧ W2.drew.cell? ⟨bw, 3, none⟩ = some (.map (some bo)) ∧ W2.drew.cell? ⟨w.heap.size, 0, none⟩ = some (.int .i64 (i : Int)) ∧ W2.drew.cell? ⟨w.heap.size, 1, none⟩ = some (.int .i64 (rm : Int)) ∧ W2.drew.cell? ⟨w.heap.size, 2, none⟩ = some (.int .i64 (n : Int))) := ⟨⟨rfl, HE2.out.c3, H92.out.cell (j := 0) rfl, H92.out.cell (j := 1) rfl, H92.out.cell (j := 2) rfl⟩⟩
  clear hlk0 hq0
  go_cut [10, 11] (fun t10 t11 wx => t10 = .int .i64 x0 ∧ t11 = .bool q0 ∧ wx = W2.drew)
  case first =>
    go_region_held3 (fun W : World => W.heap[bo]? = W2.heap[bo]? ∧ W.cell? ⟨bw, 3, none⟩ = some (.map (some bo)) ∧ W.cell? ⟨w.heap.size, 0, none⟩ = some (.int .i64 (i : Int)) ∧ W.cell? ⟨w.heap.size, 1, none⟩ = some (.int .i64 (rm : Int)) ∧ W.cell? ⟨w.heap.size, 2, none⟩ = some (.int .i64 (n : Int)))
      (with_reducible exact T3.out) (fail)
    all_goals
      go_wp2_with fail
      go_meet
      exact ⟨rfl, rfl, rfl⟩
  case rest =>
    obtain ⟨rfl, rfl, rfl⟩ := hcut
    clear T3 hl2
    have HE3 := Box.mk HE2.out.drew
    have HB3 : Box (Below w.heap.size w W2.drew) := ⟨⟨HB2.out.os, HB2.out.tape, HB2.out.output, HB2.out.size, HB2.out.block⟩⟩
    have H93 : Box (CellsB W2.drew w.heap.size [.int .i64 (i : Int), .int .i64 (rm : Int), .int .i64 (n : Int)] 130) := ⟨H92.out⟩
    generalize W2.drew = W3 at *
    clear HE2 HB2 H92
    cases q0 with
    | true =>
      have HMX := HQ0.out rfl
      go_wp2_with fail
      go_ret
      exact ⟨x0, rfl, HMX, HE3.out, below_tw HB3.out⟩
    | false =>
      clear HQ0
      obtain ⟨bN, oN, Ai, ni, ci, rfl, hcN, hsI⟩ := HE3.out.next HPI.out
      have HCN := Box.mk hcN
      have HSI := Box.mk hsI
      have hnl : (setS p.cl).length = ni := by have := hsI.len; rwa [List.length_map] at this
      have hni : ni ≤ 100 := by rw [← hnl]; exact Nat.le_trans (setS_length_le _) (HP.out.calls p (List.mem_of_getElem? HPI.out))
      have HNL := Box.mk hnl
      clear hcN hsI hnl
      go_wp2_with fail
      go_loopw [12, 13, 14, 15, 16, 17, 18] (fun t12 t13 _ _ _ _ _ wr => ∃ (s : Nat) (v : Int), s ≤ n + 1 ∧ t12 = .int .i64 v ∧ t13 = .int .i64 s ∧ Box (RwE ps wr bw bc bo Ap (some ⟨bN, oN, none⟩) np cp cn) ∧ Box (Tw bc bo W3 wr) ∧ Box (Mx (OS ps p.nm rm n s) v)) (fun _ t13 _ _ _ _ _ _ => n + 1 - (intOf t13).toNat)
      case atStart => exact ⟨0, 0, Nat.zero_le _, rfl, rfl, HE3, ⟨below_tw ⟨rfl, rfl, rfl, Nat.le_refl _, fun _ _ => rfl⟩⟩, ⟨OS_zero⟩⟩
      case round =>
        obtain ⟨s, v, hsn, rfl, rfl, HX, HT, HM⟩ := hrel
        by_cases hsl : s ≤ n
        · have CA := Box.mk (HAR.out s (by omega) wr i p (rm : Int) HX.out HPI.out hroom)
          go_wp2_with fail
          refine CA.out.mono ?_
          rintro e w5 ⟨a14, rfl, hA14, hE5, hT5⟩
          have HA14 := Box.mk hA14
          have HX5 := Box.mk hE5
          have HT5 := Box.mk (HT.out.trans hT5)
          clear hA14 hE5 hT5 HX HT CA
          go_wp2_with (first | (refine wpL_store_arr rfl _ _ rfl _ _ _ (heap_alloc_new w5 _) z16_length HA14.out.1 rfl rfl ?_; intro W6 h6 hg6 hs6))
          have hbl := (bel_alloc w5 (.cells (arrL z16).toArray 77)).grown hg6 (bel_alloc w5 _).size (fun q hq => by injection hq with hq; omega)
          have HX6 := Box.mk (HX5.out.below hbl)
          have HT6 := Box.mk (HT5.out.trans (below_tw hbl))
          have H146 := Box.mk h6
          have HB14 : Box (bc < w5.heap.size ∧ bo < w5.heap.size) := ⟨HX5.out.mc.lt, HX5.out.mo.lt⟩
          have HM6 : Box (Mx (OR ps p.nm rm n s 0) v) := ⟨HM.out.congr (fun L => (OR_zero (fun _ _ _ h => (Cl_room HP.out.ov h hroom).1)).symm)⟩
          clear h6 hg6 hs6 HX5 HT5 HM hbl
          generalize w5.heap.size = b14 at *
          go_loopw [12, 15, 16, 17, 18] (fun t12 t15 _ _ _ wr => ∃ (r : Nat) (v : Int), r ≤ 16 ∧ t12 = .int .i64 v ∧ t15 = .int .i64 r ∧ Box (RwE ps wr bw bc bo Ap (some ⟨bN, oN, none⟩) np cp cn) ∧ Box (Tw bc bo W3 wr) ∧ Box (CellsB wr b14 (arrL a14) 77) ∧ Box (Mx (OR ps p.nm rm n s r) v)) (fun _ t15 _ _ _ _ => 16 - (intOf t15).toNat)
          case atStart => exact ⟨0, v, Nat.zero_le _, rfl, rfl, HX6, HT6, H146, HM6⟩
          case round =>
            clear HX6 HT6 H146 HM6
            obtain ⟨r, v1, hr16, rfl, rfl, HX, HT, H14, HM⟩ := hrel
            by_cases hr : r < 16
            · have HBI : Box (Best (Cl ps p.nm rm s (r : Int)) (a14.getD r 0)) := ⟨HA14.out.2 r hr⟩
              have c14 := H14.out.cell (arrL_get (by rw [HA14.out.1]; exact hr))
              by_cases hv : a14.getD r 0 = never
              · have HM2 : Box (Mx (OR ps p.nm rm n s (r + 1)) v1) := ⟨OR_skip HM.out HBI.out hv⟩
                rw [hv] at c14
                have c14 : wr.cell? ⟨b14, r, none⟩ = some (.int .i64 (-1073741824)) := c14
                clear hv HBI HM
                go_wp2_with fail
                go_roundw
                case rel => exact ⟨r + 1, v1, by omega, rfl, by go_num, HX, HT, H14, HM2⟩
                case measure => simp [intOf] <;> omega
              · have HNV := Box.mk hv
                have hvb : (a14.getD r 0 == -1073741824) = false := by rw [beq_eq_false_iff_ne]; exact hv
                have HM2 : Box (Mx (OQ ps p.nm rm n s r ((setS p.cl).take 0)) (max v1 (a14.getD r 0))) := ⟨OQ_nil HM.out HBI.out hv⟩
                generalize hgx : a14.getD r 0 = x14 at *
                have HGX := Box.mk hgx
                clear hgx hv HM
                go_wp2_with fail
                clear c14 hvb
                have hdr : decide ((r : Int) < (16 : Int)) = true := decide_eq_true (by omega)
                rw [hdr]
                clear hdr
                go_loopw [12, 16, 17, 18] (fun t12 t16 _ _ wr => ∃ (j : Nat) (v : Int), j ≤ ni ∧ (¬ s < n → j = 0) ∧ t12 = .int .i64 v ∧ t16 = .int .i64 j ∧ Box (RwE ps wr bw bc bo Ap (some ⟨bN, oN, none⟩) np cp cn) ∧ Box (Tw bc bo W3 wr) ∧ Box (CellsB wr b14 (arrL a14) 77) ∧ Box (Mx (OQ ps p.nm rm n s r ((setS p.cl).take j)) v)) (fun _ t16 _ _ _ => ni - (intOf t16).toNat)
                case atStart => exact ⟨0, _, Nat.zero_le _, fun _ => rfl, rfl, rfl, HX, HT, H14, HM2⟩
                case round =>
                  clear HX HT H14 HM2
                  obtain ⟨j, v2, hj, hj0, rfl, rfl, HX, HT, H14, HM⟩ := hrel
                  have HJ0 := Box.mk hj0
                  clear hj0
                  have HCM := Box.mk (HE3.out.tw HT.out)
                  have c1 := HX.out.c1
                  have cN := HCM.out.cell _ _ _ HCN.out
                  by_cases hjl : j < ni
                  · by_cases hs : s < n
                    · clear HJ0
                      obtain ⟨bI, oI, x, rfl, _, hx, hcI⟩ := HSI.out.int_at j hjl
                      have cI := HCM.out.cell _ _ _ hcI
                      obtain ⟨iq, pq, rfl, hpq, hfq, hq⟩ := nx_at HP.out (List.mem_of_getElem? HPI.out) hx
                      have HPQ := Box.mk hpq
                      have HQJ := Box.mk hq
                      have CE := Box.mk (r_enter ps bw bc bo Ap _ np cp cn iq pq (r : Int) wr HX.out hpq hfq (HP.out.ov _ (List.mem_of_getElem? hpq)).1)
                      have HRB := Box.mk (eR_bd HP.out.ov (o := (r : Int)) ⟨by omega, by omega⟩ pq.nm)
                      have HLB := Box.mk (eL_01 ps (r : Int) pq.nm)
                      clear hx hcI hpq hfq hq
                      go_wp2_with fail
                      refine CE.out.mono ?_
                      rintro e wk ⟨rfl, rfl⟩
                      clear CE
                      generalize hgR : eR ps (r : Int) pq.nm = rq at *
                      generalize hgL : eL ps (r : Int) pq.nm = lq at *
                      have HGR := Box.mk hgR
                      have HGL := Box.mk hgL
                      clear hgR hgL
                      go_upto_region 19 with fail
                      have c14 := H14.out.cell (arrL_get (by rw [HA14.out.1]; exact hr))
                      rw [HGX.out] at c14
                      have CI := IH.out (n - s - 1) (by omega) (by omega) wr.drew iq pq rq HX.out.drew HPQ.out HRB.out
                      rw [show ((n - s - 1 : Nat) : Int) = (n : Int) - (s : Int) - 1 by omega] at CI
                      replace CI := Box.mk CI
                      have HXd := Box.mk HX.out.drew
                      have HTd : Box (Tw bc bo W3 wr.drew) := ⟨HT.out.trans (below_tw ⟨rfl, rfl, rfl, Nat.le_refl _, fun _ _ => rfl⟩)⟩
                      have H14d : Box (CellsB wr.drew b14 (arrL a14) 77) := ⟨H14.out⟩
                      have T9 : Box (wr.drew.cell? ⟨b14, r, none⟩ = some (.int .i64 x14) ∧ wr.drew.cell? ⟨bw, 1, none⟩ = some (.slice (some ⟨bN, oN, none⟩) np cn) ∧ wr.drew.cell? ⟨bN, oN + i, none⟩ = some (.slice (some ⟨bI, oI, none⟩) ni ci) ∧ wr.drew.cell? ⟨bI, oI + j, none⟩ = some (.int .i64 (iq : Int))) := ⟨⟨c14, c1, cN, cI⟩⟩
                      have hw1 : IntKind.i64.wrap ((n : Int) - (s : Int)) = (n : Int) - (s : Int) := wrap_i64 (by omega) (by omega)
                      have hw2 : IntKind.i64.wrap ((n : Int) - (s : Int) - 1) = (n : Int) - (s : Int) - 1 := wrap_i64 (by omega) (by omega)
                      have hb1 := Cl_ge (HBI.out.some HNV.out).1
                      have hw3 : IntKind.i64.wrap (x14 + lq) = x14 + lq := wrap_i64 (by have := HLB.out; omega) (by have := HLB.out; omega)
                      have HB1 := Box.mk hb1
                      clear c14 c1 cN cI HX HT H14 HCM hb1
                      refine wp_region_head (hd := ?hdlo) (tl := ?tllo) (S := fun W => W.cell? ⟨b14, r, none⟩ = some (.int .i64 x14) ∧ W.cell? ⟨bw, 1, none⟩ = some (.slice (some ⟨bN, oN, none⟩) np cn) ∧ W.cell? ⟨bN, oN + i, none⟩ = some (.slice (some ⟨bI, oI, none⟩) ni ci) ∧ W.cell? ⟨bI, oI + j, none⟩ = some (.int .i64 (iq : Int))) 25 (by kernel_rfl) (by kernel_rfl) ?hdo ?tlo T9.out (fun hHeld => ?walko)
                      case hdo => simp only [List.take_succ_cons, List.take_zero] <;> rfl
                      case tlo => simp only [List.drop_succ_cons, List.drop_zero] <;> rfl
                      generalize wr.drew = Wd at *
                      refine wpAnyH_take (i := 0) (oi := ?oio1) (v := ?vo1) ?hoo1 (by kernel_rfl) (by kernel_rfl) (by kernel_rfl) ?hQo1 (Or.inl ⟨?hgo1, ?hyo1⟩) hHeld ?resto1
                      case hoo1 => simp only [List.getElem?_toArray, List.getElem?_cons_zero] <;> rfl
                      case hQo1 => exact fun _ _ _ h => h
                      case hgo1 => rfl
                      case hyo1 =>
                        intro w hSw
                        obtain ⟨a1, a2, a3, a4⟩ := hSw
                        go_simp <;> with_reducible rfl
                      try simp only [Act.put, List.setIfInBounds_toArray, List.set_cons_zero, List.set_cons_succ]
                      refine wpAnyH_take (i := 1) (oi := ?oio2) (v := ?vo2) ?hoo2 (by kernel_rfl) (by kernel_rfl) (by kernel_rfl) ?hQo2 (Or.inl ⟨?hgo2, ?hyo2⟩) hHeld ?resto2
                      case hoo2 => simp only [List.getElem?_toArray, List.getElem?_cons_succ, List.getElem?_cons_zero] <;> rfl
                      case hQo2 => exact fun _ _ _ h => h
                      case hgo2 => rfl
                      case hyo2 =>
                        intro w hSw
                        obtain ⟨a1, a2, a3, a4⟩ := hSw
                        go_simp <;> with_reducible rfl
                      try simp only [Act.put, List.setIfInBounds_toArray, List.set_cons_zero, List.set_cons_succ]
                      refine wpAnyH_take (i := 2) (oi := ?oio3) (v := ?vo3) ?hoo3 (by kernel_rfl) (by kernel_rfl) (by kernel_rfl) ?hQo3 (Or.inl ⟨?hgo3, ?hyo3⟩) hHeld ?resto3
                      case hoo3 => simp only [List.getElem?_toArray, List.getElem?_cons_succ, List.getElem?_cons_zero] <;> rfl
                      case hQo3 => exact fun _ _ _ h => h
                      case hgo3 => rfl
                      case hyo3 =>
                        intro w hSw
                        obtain ⟨a1, a2, a3, a4⟩ := hSw
                        go_simp <;> with_reducible rfl
                      try simp only [Act.put, List.setIfInBounds_toArray, List.set_cons_zero, List.set_cons_succ]
                      refine wpAnyH_take (i := 3) (oi := ?oio4) (v := ?vo4) ?hoo4 (by kernel_rfl) (by kernel_rfl) (by kernel_rfl) ?hQo4 (Or.inl ⟨?hgo4, ?hyo4⟩) hHeld ?resto4
                      case hoo4 => simp only [List.getElem?_toArray, List.getElem?_cons_succ, List.getElem?_cons_zero] <;> rfl
                      case hQo4 => exact fun _ _ _ h => h
                      case hgo4 => rfl
                      case hyo4 =>
                        intro w hSw
                        obtain ⟨a1, a2, a3, a4⟩ := hSw
                        go_simp <;> with_reducible rfl
                      try simp only [Act.put, List.setIfInBounds_toArray, List.set_cons_zero, List.set_cons_succ]
                      refine wpAnyH_take (i := 4) (oi := ?oio5) (v := ?vo5) ?hoo5 (by kernel_rfl) (by kernel_rfl) (by kernel_rfl) ?hQo5 (Or.inl ⟨?hgo5, ?hyo5⟩) hHeld ?resto5
                      case hoo5 => simp only [List.getElem?_toArray, List.getElem?_cons_succ, List.getElem?_cons_zero] <;> rfl
                      case hQo5 => exact fun _ _ _ h => h
                      case hgo5 => rfl
                      case hyo5 =>
                        intro w hSw
                        obtain ⟨a1, a2, a3, a4⟩ := hSw
                        go_simp <;> with_reducible rfl
                      try simp only [Act.put, List.setIfInBounds_toArray, List.set_cons_zero, List.set_cons_succ]
                      refine wpAnyH_take (i := 5) (oi := ?oio6) (v := ?vo6) ?hoo6 (by kernel_rfl) (by kernel_rfl) (by kernel_rfl) ?hQo6 (Or.inl ⟨?hgo6, ?hyo6⟩) hHeld ?resto6
                      case hoo6 => simp only [List.getElem?_toArray, List.getElem?_cons_succ, List.getElem?_cons_zero] <;> rfl
                      case hQo6 => exact fun _ _ _ h => h
                      case hgo6 => rfl
                      case hyo6 =>
                        intro w hSw
                        obtain ⟨a1, a2, a3, a4⟩ := hSw
                        go_simp <;> with_reducible rfl
                      try simp only [Act.put, List.setIfInBounds_toArray, List.set_cons_zero, List.set_cons_succ]
                      refine wpAnyH_take (i := 6) (oi := ?oio7) (v := ?vo7) ?hoo7 (by kernel_rfl) (by kernel_rfl) (by kernel_rfl) ?hQo7 (Or.inl ⟨?hgo7, ?hyo7⟩) hHeld ?resto7
                      case hoo7 => simp only [List.getElem?_toArray, List.getElem?_cons_succ, List.getElem?_cons_zero] <;> rfl
                      case hQo7 => exact fun _ _ _ h => h
                      case hgo7 => rfl
                      case hyo7 =>
                        intro w hSw
                        obtain ⟨a1, a2, a3, a4⟩ := hSw
                        go_simp <;> with_reducible rfl
                      try simp only [Act.put, List.setIfInBounds_toArray, List.set_cons_zero, List.set_cons_succ]
                      refine wpAnyH_take (i := 7) (oi := ?oio8) (v := ?vo8) ?hoo8 (by kernel_rfl) (by kernel_rfl) (by kernel_rfl) ?hQo8 (Or.inl ⟨?hgo8, ?hyo8⟩) hHeld ?resto8
                      case hoo8 => simp only [List.getElem?_toArray, List.getElem?_cons_succ, List.getElem?_cons_zero] <;> rfl
                      case hQo8 => exact fun _ _ _ h => h
                      case hgo8 => rfl
                      case hyo8 =>
                        intro w hSw
                        obtain ⟨a1, a2, a3, a4⟩ := hSw
                        go_simp <;> with_reducible rfl
                      try simp only [Act.put, List.setIfInBounds_toArray, List.set_cons_zero, List.set_cons_succ]
                      refine wpAnyH_take (i := 8) (oi := ?oio9) (v := ?vo9) ?hoo9 (by kernel_rfl) (by kernel_rfl) (by kernel_rfl) ?hQo9 (Or.inl ⟨?hgo9, ?hyo9⟩) hHeld ?resto9
                      case hoo9 => simp only [List.getElem?_toArray, List.getElem?_cons_succ, List.getElem?_cons_zero] <;> rfl
                      case hQo9 => exact fun _ _ _ h => h
                      case hgo9 => rfl
                      case hyo9 =>
                        intro w hSw
                        obtain ⟨a1, a2, a3, a4⟩ := hSw
                        go_simp <;> with_reducible rfl
                      try simp only [Act.put, List.setIfInBounds_toArray, List.set_cons_zero, List.set_cons_succ]
                      refine wpAnyH_take (i := 9) (oi := ?oio10) (v := ?vo10) ?hoo10 (by kernel_rfl) (by kernel_rfl) (by kernel_rfl) ?hQo10 (Or.inl ⟨?hgo10, ?hyo10⟩) hHeld ?resto10
                      case hoo10 => simp only [List.getElem?_toArray, List.getElem?_cons_succ, List.getElem?_cons_zero] <;> rfl
                      case hQo10 => exact fun _ _ _ h => h
                      case hgo10 => rfl
                      case hyo10 =>
                        intro w hSw
                        obtain ⟨a1, a2, a3, a4⟩ := hSw
                        go_simp <;> with_reducible rfl
                      try simp only [Act.put, List.setIfInBounds_toArray, List.set_cons_zero, List.set_cons_succ]
                      refine wpAnyH_take (i := 10) (oi := ?oio11) (v := ?vo11) ?hoo11 (by kernel_rfl) (by kernel_rfl) (by kernel_rfl) ?hQo11 (Or.inl ⟨?hgo11, ?hyo11⟩) hHeld ?resto11
                      case hoo11 => simp only [List.getElem?_toArray, List.getElem?_cons_succ, List.getElem?_cons_zero] <;> rfl
                      case hQo11 => exact fun _ _ _ h => h
                      case hgo11 => rfl
                      case hyo11 =>
                        intro w hSw
                        obtain ⟨a1, a2, a3, a4⟩ := hSw
                        go_simp <;> with_reducible rfl
                      try simp only [Act.put, List.setIfInBounds_toArray, List.set_cons_zero, List.set_cons_succ]
                      refine wpAnyH_take (i := 11) (oi := ?oio12) (v := ?vo12) ?hoo12 (by kernel_rfl) (by kernel_rfl) (by kernel_rfl) ?hQo12 (Or.inl ⟨?hgo12, ?hyo12⟩) hHeld ?resto12
                      case hoo12 => simp only [List.getElem?_toArray, List.getElem?_cons_succ, List.getElem?_cons_zero] <;> rfl
                      case hQo12 => exact fun _ _ _ h => h
                      case hgo12 => rfl
                      case hyo12 =>
                        intro w hSw
                        obtain ⟨a1, a2, a3, a4⟩ := hSw
                        go_simp <;> with_reducible rfl
                      try simp only [Act.put, List.setIfInBounds_toArray, List.set_cons_zero, List.set_cons_succ]
                      refine wpAnyH_take (i := 12) (oi := ?oio13) (v := ?vo13) ?hoo13 (by kernel_rfl) (by kernel_rfl) (by kernel_rfl) ?hQo13 (Or.inl ⟨?hgo13, ?hyo13⟩) hHeld ?resto13
                      case hoo13 => simp only [List.getElem?_toArray, List.getElem?_cons_succ, List.getElem?_cons_zero] <;> rfl
                      case hQo13 => exact fun _ _ _ h => h
                      case hgo13 => rfl
                      case hyo13 =>
                        intro w hSw
                        obtain ⟨a1, a2, a3, a4⟩ := hSw
                        go_simp <;> with_reducible rfl
                      try simp only [Act.put, List.setIfInBounds_toArray, List.set_cons_zero, List.set_cons_succ]
                      refine wpAnyH_take (i := 13) (oi := ?oio14) (v := ?vo14) ?hoo14 (by kernel_rfl) (by kernel_rfl) (by kernel_rfl) ?hQo14 (Or.inl ⟨?hgo14, ?hyo14⟩) hHeld ?resto14
                      case hoo14 => simp only [List.getElem?_toArray, List.getElem?_cons_succ, List.getElem?_cons_zero] <;> rfl
                      case hQo14 => exact fun _ _ _ h => h
                      case hgo14 => rfl
                      case hyo14 =>
                        intro w hSw
                        obtain ⟨a1, a2, a3, a4⟩ := hSw
                        go_simp <;> with_reducible rfl
                      try simp only [Act.put, List.setIfInBounds_toArray, List.set_cons_zero, List.set_cons_succ]
                      refine wpAnyH_take (i := 14) (oi := ?oio15) (v := ?vo15) ?hoo15 (by kernel_rfl) (by kernel_rfl) (by kernel_rfl) ?hQo15 (Or.inl ⟨?hgo15, ?hyo15⟩) hHeld ?resto15
                      case hoo15 => simp only [List.getElem?_toArray, List.getElem?_cons_succ, List.getElem?_cons_zero] <;> rfl
                      case hQo15 => exact fun _ _ _ h => h
                      case hgo15 => rfl
                      case hyo15 =>
                        intro w hSw
                        obtain ⟨a1, a2, a3, a4⟩ := hSw
                        go_simp <;> with_reducible rfl
                      try simp only [Act.put, List.setIfInBounds_toArray, List.set_cons_zero, List.set_cons_succ]
                      refine wpAnyH_take (i := 15) (oi := ?oio16) (v := ?vo16) ?hoo16 (by kernel_rfl) (by kernel_rfl) (by kernel_rfl) ?hQo16 (Or.inl ⟨?hgo16, ?hyo16⟩) hHeld ?resto16
                      case hoo16 => simp only [List.getElem?_toArray, List.getElem?_cons_succ, List.getElem?_cons_zero] <;> rfl
                      case hQo16 => exact fun _ _ _ h => h
                      case hgo16 => rfl
                      case hyo16 =>
                        intro w hSw
                        obtain ⟨a1, a2, a3, a4⟩ := hSw
                        go_simp <;> with_reducible rfl
                      try simp only [Act.put, List.setIfInBounds_toArray, List.set_cons_zero, List.set_cons_succ]
                      refine wpAnyH_take (i := 16) (oi := ?oio17) (v := ?vo17) ?hoo17 (by kernel_rfl) (by kernel_rfl) (by kernel_rfl) ?hQo17 (Or.inl ⟨?hgo17, ?hyo17⟩) hHeld ?resto17
                      case hoo17 => simp only [List.getElem?_toArray, List.getElem?_cons_succ, List.getElem?_cons_zero] <;> rfl
                      case hQo17 => exact fun _ _ _ h => h
                      case hgo17 => rfl
                      case hyo17 =>
                        intro w hSw
                        obtain ⟨a1, a2, a3, a4⟩ := hSw
                        go_simp <;> with_reducible rfl
                      try simp only [Act.put, List.setIfInBounds_toArray, List.set_cons_zero, List.set_cons_succ]
                      refine wpAnyH_take (i := 17) (oi := ?oio18) (v := ?vo18) ?hoo18 (by kernel_rfl) (by kernel_rfl) (by kernel_rfl) ?hQo18 (Or.inl ⟨?hgo18, ?hyo18⟩) hHeld ?resto18
                      case hoo18 => simp only [List.getElem?_toArray, List.getElem?_cons_succ, List.getElem?_cons_zero] <;> rfl
                      case hQo18 => exact fun _ _ _ h => h
                      case hgo18 => rfl
                      case hyo18 =>
                        intro w hSw
                        obtain ⟨a1, a2, a3, a4⟩ := hSw
                        go_simp <;> with_reducible rfl
                      try simp only [Act.put, List.setIfInBounds_toArray, List.set_cons_zero, List.set_cons_succ]
                      refine wpAnyH_take (i := 18) (oi := ?oio19) (v := ?vo19) ?hoo19 (by kernel_rfl) (by kernel_rfl) (by kernel_rfl) ?hQo19 (Or.inl ⟨?hgo19, ?hyo19⟩) hHeld ?resto19
                      case hoo19 => simp only [List.getElem?_toArray, List.getElem?_cons_succ, List.getElem?_cons_zero] <;> rfl
                      case hQo19 => exact fun _ _ _ h => h
                      case hgo19 => rfl
                      case hyo19 =>
                        intro w hSw
                        obtain ⟨a1, a2, a3, a4⟩ := hSw
                        go_simp <;> with_reducible rfl
                      try simp only [Act.put, List.setIfInBounds_toArray, List.set_cons_zero, List.set_cons_succ]
                      refine wpAnyH_take (i := 19) (oi := ?oio20) (v := ?vo20) ?hoo20 (by kernel_rfl) (by kernel_rfl) (by kernel_rfl) ?hQo20 (Or.inl ⟨?hgo20, ?hyo20⟩) hHeld ?resto20
                      case hoo20 => simp only [List.getElem?_toArray, List.getElem?_cons_succ, List.getElem?_cons_zero] <;> rfl
                      case hQo20 => exact fun _ _ _ h => h
                      case hgo20 => rfl
                      case hyo20 =>
                        intro w hSw
                        obtain ⟨a1, a2, a3, a4⟩ := hSw
                        go_simp <;> with_reducible rfl
                      try simp only [Act.put, List.setIfInBounds_toArray, List.set_cons_zero, List.set_cons_succ]
                      refine wpAnyH_take (i := 20) (oi := ?oio21) (v := ?vo21) ?hoo21 (by kernel_rfl) (by kernel_rfl) (by kernel_rfl) ?hQo21 (Or.inl ⟨?hgo21, ?hyo21⟩) hHeld ?resto21
                      case hoo21 => simp only [List.getElem?_toArray, List.getElem?_cons_succ, List.getElem?_cons_zero] <;> rfl
                      case hQo21 => exact fun _ _ _ h => h
                      case hgo21 => rfl
                      case hyo21 =>
                        intro w hSw
                        obtain ⟨a1, a2, a3, a4⟩ := hSw
                        go_simp <;> with_reducible rfl
                      try simp only [Act.put, List.setIfInBounds_toArray, List.set_cons_zero, List.set_cons_succ]
                      refine wpAnyH_take (i := 21) (oi := ?oio22) (v := ?vo22) ?hoo22 (by kernel_rfl) (by kernel_rfl) (by kernel_rfl) ?hQo22 (Or.inl ⟨?hgo22, ?hyo22⟩) hHeld ?resto22
                      case hoo22 => simp only [List.getElem?_toArray, List.getElem?_cons_succ, List.getElem?_cons_zero] <;> rfl
                      case hQo22 => exact fun _ _ _ h => h
                      case hgo22 => rfl
                      case hyo22 =>
                        intro w hSw
                        obtain ⟨a1, a2, a3, a4⟩ := hSw
                        go_simp <;> with_reducible rfl
                      try simp only [Act.put, List.setIfInBounds_toArray, List.set_cons_zero, List.set_cons_succ]
                      refine wpAnyH_ready (rs := [22]) (by kernel_rfl) (by simp) ?_
                      refine AllReadyH.cons (o := ?oo23) ?hoo23 (fun K hK => ?stepo23) AllReadyH.nil
                      case hoo23 => simp only [List.getElem?_toArray, List.getElem?_cons_succ, List.getElem?_cons_zero] <;> rfl
                      go_simp
                      try simp only [hw1, hw2]
                      refine CI.out.mono ?_
                      rintro e W5 ⟨v5, rfl, hM5, hE5, hT5⟩
                      have HM5 := Box.mk hM5
                      have T5 : Box (W5.cell? ⟨b14, r, none⟩ = some (.int .i64 x14) ∧ W5.cell? ⟨bw, 1, none⟩ = some (.slice (some ⟨bN, oN, none⟩) np cn) ∧ W5.cell? ⟨bN, oN + i, none⟩ = some (.slice (some ⟨bI, oI, none⟩) ni ci) ∧ W5.cell? ⟨bI, oI + j, none⟩ = some (.int .i64 (iq : Int))) := ⟨by
                        have hcm := HXd.out.tw hT5
                        obtain ⟨g1, g2, g3, g4⟩ := T9.out
                        exact ⟨hcm.cell _ _ _ g1, hcm.cell _ _ _ g2, hcm.cell _ _ _ g3, hcm.cell _ _ _ g4⟩⟩
                      have HX5 := Box.mk hE5
                      have HT5 := Box.mk (HTd.out.trans hT5)
                      have H145 := Box.mk (H14d.out.tw hT5 (by have := HB14.out; omega) (by have := HB14.out; omega))
                      clear hM5 hE5 hT5
                      refine hK.out _ _ (T5.out) (fun hHeld => ?_)
                      clear hK K
                      try simp only [Act.put, List.setIfInBounds_toArray, List.set_cons_zero, List.set_cons_succ]
                      refine wpAnyH_take (i := 23) (oi := ?oio24) (v := ?vo24) ?hoo24 (by kernel_rfl) (by kernel_rfl) (by kernel_rfl) ?hQo24 (Or.inl ⟨?hgo24, ?hyo24⟩) hHeld ?resto24
                      case hoo24 => simp only [List.getElem?_toArray, List.getElem?_cons_succ, List.getElem?_cons_zero] <;> rfl
                      case hQo24 => exact fun _ _ _ h => h
                      case hgo24 => rfl
                      case hyo24 =>
                        intro w hSw
                        obtain ⟨a1, a2, a3, a4⟩ := hSw
                        go_simp <;> with_reducible rfl
                      try simp only [Act.put, List.setIfInBounds_toArray, List.set_cons_zero, List.set_cons_succ]
                      refine wpAnyH_take (i := 24) (oi := ?oio25) (v := ?vo25) ?hoo25 (by kernel_rfl) (by kernel_rfl) (by kernel_rfl) ?hQo25 (Or.inl ⟨?hgo25, ?hyo25⟩) hHeld ?resto25
                      case hoo25 => simp only [List.getElem?_toArray, List.getElem?_cons_succ, List.getElem?_cons_zero] <;> rfl
                      case hQo25 => exact fun _ _ _ h => h
                      case hgo25 => rfl
                      case hyo25 =>
                        intro w hSw
                        obtain ⟨a1, a2, a3, a4⟩ := hSw
                        go_simp <;> with_reducible rfl
                      try simp only [Act.put, List.setIfInBounds_toArray, List.set_cons_zero, List.set_cons_succ]
                      refine wpAnyH_done (by kernel_rfl) ?_ _
                      simp only [headQ]
                      have hb5 := Opw_ge HM5.out.1
                      have hw4 : IntKind.i64.wrap (x14 + lq + v5) = x14 + lq + v5 := wrap_i64 (by have := HLB.out; have := HB1.out; omega) (by have := HLB.out; have := HB1.out; omega)
                      simp only [hw4]
                      have HMN : Box (Mx (OQ ps p.nm rm n s r ((setS p.cl).take (j + 1))) (max v2 (x14 + lq + v5))) := ⟨by
                        rw [take_snoc HQJ.out]
                        have := OQ_snoc HM.out hs HBI.out HNV.out (q := pq.nm) (by rw [HGR.out]; exact HM5.out)
                        rwa [HGL.out] at this⟩
                      generalize x14 + lq + v5 = y at *
                      clear hw1 hw2 hw3 hw4 hb5 HM
                      go_wp2_with fail
                      go_roundw
                      case rel => exact ⟨j + 1, _, by omega, fun h => absurd hs h, rfl, by go_num, HX5, HT5, H145, HMN⟩
                      case measure => simp [intOf] <;> omega
                    · obtain rfl : j = 0 := HJ0.out hs
                      have HM2 : Box (Mx (OR ps p.nm rm n s (r + 1)) v2) := ⟨OQ_end (ni := ni) (j := 0) (by rw [HCO.out]; exact HM.out) (by rw [HCO.out]; exact HNL.out) (fun h => absurd h hs) (fun _ => rfl)⟩
                      clear HM HJ0 HCM
                      go_wp2_with fail
                      go_roundw
                      case rel => exact ⟨r + 1, v2, by omega, rfl, by go_num, HX, HT, H14, HM2⟩
                      case measure => simp [intOf] <;> omega
                  · have HM2 : Box (Mx (OR ps p.nm rm n s (r + 1)) v2) := ⟨OQ_end (ni := ni) (j := j) (by rw [HCO.out]; exact HM.out) (by rw [HCO.out]; exact HNL.out) (fun _ => by omega) HJ0.out⟩
                    clear HM HJ0 HCM
                    go_wp2_with fail
                    go_roundw
                    case rel => exact ⟨r + 1, v2, by omega, rfl, by go_num, HX, HT, H14, HM2⟩
                    case measure => simp [intOf] <;> omega
            · obtain rfl : r = 16 := by omega
              have HM2 : Box (Mx (OS ps p.nm rm n (s + 1)) v1) := ⟨HM.out.congr (fun L => OR_done (fun _ _ _ h => (Cl_room HP.out.ov h hroom).2))⟩
              clear HM H14
              go_wp2_with fail
              go_roundw
              case rel => exact ⟨s + 1, v1, by omega, rfl, by go_num, HX, HT, HM2⟩
              case measure => simp [intOf] <;> omega
        · obtain rfl : s = n + 1 := by omega
          have HMF : Box (Mx (Opw ps p.nm rm n) v) := ⟨HM.out.congr (fun L => OS_all)⟩
          clear HM
          go_upto_region 20 with fail
          have c3 := HX.out.c3
          have H9 := Box.mk (H93.out.tw HT.out (by have := HLT.out; omega) (by have := HLT.out; omega))
          have k0 := H9.out.cell (j := 0) rfl
          have k1 := H9.out.cell (j := 1) rfl
          have k2 := H9.out.cell (j := 2) rfl
          obtain ⟨W9, hup, hM9, hG9⟩ := HX.out.drew.mo.add HPI.out (rm : Int) HMF.out
          have HT9' : Tw bc bo wr.drew W9 := Tw.of hG9 (fun r e => by injection e with e; exact .inr (.inl e.symm))
          have HX9 := Box.mk (HX.out.drew.cm (HX.out.drew.tw HT9') (HX.out.drew.mc.same (hG9.block _ HX.out.drew.mc.lt (fun e => by injection e with e; exact HE.out.ne e))) hM9)
          have hd : Tw bc bo wr wr.drew := below_tw ⟨rfl, rfl, rfl, Nat.le_refl _, fun _ _ => rfl⟩
          have HT9 : Box (Tw bc bo w W9) := ⟨((below_tw HB3.out).trans HT.out).trans (hd.trans HT9')⟩
          clear hM9 hG9 HX HT HT9' hd
          go_still_tail 6, (by kernel_rfl)
          go_wp2_with fail
          go_ret
          exact ⟨v, rfl, HMF.out, HX9.out, HT9.out⟩
end Go.Proofs.Ytchhjldopecliaa
namespace Go.Proofs.Ytchhjldopecliaa
open Go.RowKit

theorem Good.rwp {ms : List Md} (h : Good ms) (h0 : opn ms = 0) : RwP (prs ms) := by
  have hg := h.ps
  refine ⟨hg.ov, fun p hp => ?_, opn_all h0, hg.len, fun p hp => (h.pcalls hp)⟩
  obtain ⟨i, hi⟩ := List.mem_iff_getElem?.1 hp
  exact (fnd_at h.nms hi).1
theorem strs_lim {w : World} {A : Option Addr} {n c : Nat} {xs : List Str} (h : SlR w 1 RStr A n c xs) : ∀ x ∈ xs, x.size ≤ LIM := fun x hx => by
  obtain ⟨i, hi⟩ := List.mem_iff_getElem?.1 hx
  obtain ⟨b, off, y, _, _, hy, hs, _⟩ := h.str_at i (by rw [← h.len]; exact (List.getElem?_eq_some_iff.1 hi).1)
  rw [hi] at hy
  injection hy with hy
  subst hy
  exact hs
theorem own_form {w : World} {base : Nat} {e : TypeId} {v : Value} {n : Nat} {xs : List Value} (h : w.ownsRow base e 1 v n xs) : ∃ A c, v = .slice A n c := by
  rcases h.2 with ⟨rfl, h0⟩ | ⟨g, cap, cur, rfl, _⟩
  · exact ⟨none, 0, by rw [h0]⟩
  · exact ⟨_, cap, rfl⟩
theorem info_sl30 : (Try.prog.info? 30).map (fun i => (i.zero, i.size, i.bytes)) = some (some (.slice none 0 0), 1, 24) := by kernel_rfl
theorem nxI_get {ps : List Pc} {i : Nat} {p : Pc} (h : ps[i]? = some p) : (nxI ps).take (i + 1) = (nxI ps).take i ++ [(setS p.cl).map (fun q => fdx q ps)] := by
  rw [List.take_add_one]
  congr 1
  unfold nxI
  rw [List.getElem?_map, h]
  rfl

set_option maxRecDepth 100000 in
set_option maxHeartbeats 4000000 in
theorem r_Worst (A : Option Addr) (n c : Nat) (ms : List Md) (x : Str) (k : Int) (w : World) (h : SlR w 5 RMd A n c ms) :
    Calls Try.prog 43 #[.slice A n c, .string x, .int .i64 k] w fun e w' => e = .returned (.tuple #[.int .i64 (wor ms x k).1, .int .i64 (wor ms x k).2]) ∧ Below w.heap.size w w' := by
  have hlim := h.lim
  have H := Box.mk h
  clear h
  go_enter Try.func43, Try.ntmps43
  have hmm := @run_makeMap Try.prog
  go_wp2_with fail
  refine (r_from A n c ms x w H.out).mono ?_
  rintro e w1 ⟨⟨v8, kx, rfl, hv⟩, hb1⟩
  have HB1 := Box.mk hb1
  clear hb1
  by_cases h0 : opf ms x = 0
  case neg =>
    have HO : Box (wor ms x k = (0, opf ms x)) := ⟨by unfold wor; rw [if_pos h0]⟩
    have h0' : (opf ms x != 0) = true := by simpa using h0
    clear hv
    generalize opf ms x = V at *
    go_wp2_with fail
    go_ret2
    exact ⟨by rw [HO.out]; rfl, HB1.out⟩
  case pos =>
  obtain ⟨hop, hg, pt, A', c', hkx, hpt, rfl, hps⟩ := hv h0
  have HW : Box (wor ms x k = if k < 0 ∨ 12 < k then (0, 1) else (eL (prs ms) 0 x + wst (prs ms) k.toNat x [] (eR (prs ms) 0 x), 0)) := ⟨by unfold wor; rw [if_neg (by simpa using h0)]; rfl⟩
  have HRP := Box.mk (hg.rwp hop)
  have HPT := Box.mk hpt
  have HPS := Box.mk hps
  have HCA : Box (∀ p ∈ prs ms, p.cl.length ≤ 100) := ⟨fun p hp => hg.pcalls hp⟩
  obtain ⟨kt, hkt, hptk⟩ := fdx_found hpt
  obtain ⟨_, rfl⟩ := fnd_some hpt
  rw [hkt] at hkx
  subst hkx
  have HPK := Box.mk hptk
  have hplen := hg.plen
  rw [h0]
  clear hv hop hg hpt hps h0 hkt hptk
  by_cases hk0 : k < 0
  · have HO : Box (wor ms pt.nm k = (0, 1)) := ⟨by rw [HW.out, if_pos (.inl hk0)]⟩
    go_wp2_with fail
    go_ret2
    exact ⟨by rw [HO.out]; rfl, HB1.out⟩
  by_cases hk1 : 12 < k
  · have HO : Box (wor ms pt.nm k = (0, 1)) := ⟨by rw [HW.out, if_pos (.inr hk1)]⟩
    go_wp2_with fail
    go_ret2
    exact ⟨by rw [HO.out]; rfl, HB1.out⟩
  rw [if_neg (by omega)] at HW
  obtain ⟨m, rfl⟩ := Int.eq_ofNat_of_zero_le (by omega : 0 ≤ k)
  rw [Int.toNat_natCast] at HW
  have hm12 : m ≤ 12 := by omega
  generalize prs ms = ps at *
  obtain ⟨np, hnp⟩ : ∃ np, np = ps.length := ⟨_, rfl⟩
  rw [← hnp] at HPS hplen ⊢
  have HNP := Box.mk hnp
  clear hk0 hk1 hnp
  go_upto_region 7 with fail
  have HB4 := Box.mk (bel_alloc2 (bel_alloc2 (bel_alloc w1 (.map #[] 0)) (.map #[] 0)) (.cells #[.slice A' np c', .slice none 0 0, .map (some w1.heap.size), .map (some (w1.heap.size + 1))] 116))
  have HC4 : Box (CellsB (((w1.alloc (.map #[] 0)).alloc (.map #[] 0)).alloc (.cells #[.slice A' np c', .slice none 0 0, .map (some w1.heap.size), .map (some (w1.heap.size + 1))] 116)) (w1.heap.size + 1 + 1) [.slice A' np c', .slice none 0 0, .map (some w1.heap.size), .map (some (w1.heap.size + 1))] 116) := ⟨by
    have := heap_alloc_new ((w1.alloc (.map #[] 0)).alloc (.map #[] 0)) (.cells #[.slice A' np c', .slice none 0 0, .map (some w1.heap.size), .map (some (w1.heap.size + 1))] 116)
    rw [show ((w1.alloc (.map #[] 0)).alloc (.map #[] 0)).heap.size = w1.heap.size + 1 + 1 by simp] at this
    exact this⟩
  have HMC4 : Box (MemC ps (((w1.alloc (.map #[] 0)).alloc (.map #[] 0)).alloc (.cells #[.slice A' np c', .slice none 0 0, .map (some w1.heap.size), .map (some (w1.heap.size + 1))] 116)) w1.heap.size) :=
    ⟨⟨[], ((MapK_made w1 encA).below (bel_alloc _ _)).below (bel_alloc _ _), fun _ _ _ v hv => by simp [getK_nil] at hv⟩⟩
  have HMO4 : Box (MemO ps (((w1.alloc (.map #[] 0)).alloc (.map #[] 0)).alloc (.cells #[.slice A' np c', .slice none 0 0, .map (some w1.heap.size), .map (some (w1.heap.size + 1))] 116)) (w1.heap.size + 1)) := ⟨by
    have := MapK_made (w1.alloc (.map #[] 0)) encA
    rw [show (w1.alloc (.map #[] 0)).heap.size = w1.heap.size + 1 by simp] at this
    exact ⟨[], this.below (bel_alloc _ _), fun _ _ _ v hv => by simp [getK_nil] at hv⟩⟩
  generalize (((w1.alloc (.map #[] 0)).alloc (.map #[] 0)).alloc (.cells #[.slice A' np c', .slice none 0 0, .map (some w1.heap.size), .map (some (w1.heap.size + 1))] 116)) = W4 at *
  clear hmm
  go_wp2_with fail
  go_loopw [12, 13, 14, 15] (fun t12 _ _ _ wr => ∃ (i : Nat) (v : Value), i ≤ np ∧ t12 = .int .i64 i ∧ Box (CellsB wr (w1.heap.size + 1 + 1) [.slice A' np c', v, .map (some w1.heap.size), .map (some (w1.heap.size + 1))] 116) ∧ Box (OwnO (fun b => (w1.heap.size + 1 + 1) < b ∧ some b ≠ v.ownBlock) wr ((w1.heap.size + 1 + 1) + 1) 30 1 (RSlO 1 RIntO) v ((nxI ps).take i)) ∧ Box (MemC ps wr w1.heap.size) ∧ Box (MemO ps wr (w1.heap.size + 1)) ∧ Box (Below w1.heap.size w1 wr)) (fun t12 _ _ _ _ => np - (intOf t12).toNat)
  case atStart => exact ⟨0, _, Nat.zero_le _, rfl, HC4, ⟨OwnO.nil⟩, HMC4, HMO4, HB4⟩
  case round =>
    clear HC4 HMC4 HMO4 HB4
    obtain ⟨i, v, hi, rfl, HC, HV, HMC, HMO, HB⟩ := hrel
    have HPr := Box.mk (HPS.out.below mono_pc HB.out)
    by_cases hil : i < np
    · obtain ⟨b, off, p, A1, n1, c1, rfl, hb, hx, hnm, hcl, k0, k1, k2, k3⟩ := HPr.out.pc_at i hil
      have HX := Box.mk hx
      have CR := Box.mk (r_set A1 n1 c1 p.cl wr hcl (strs_lim hcl) (by rw [← hcl.len]; have := HCA.out p (List.mem_of_getElem? hx); omega))
      clear hx hnm hcl k0 k1 k2
      go_wp2_with fail
      refine CR.out.mono ?_
      rintro e w5 ⟨A2, c2, rfl, hs2, hb5⟩
      obtain ⟨nq, hnq⟩ : ∃ nq, nq = (setS p.cl).length := ⟨_, rfl⟩
      rw [← hnq] at hs2 ⊢
      have HNQ := Box.mk hnq
      have hnq100 : nq ≤ 100 := by rw [hnq]; exact Nat.le_trans (setS_length_le _) (HCA.out p (List.mem_of_getElem? HX.out))
      have HS2 := Box.mk hs2
      have HC5 := Box.mk (HC.out.below hb5)
      have HV5 := Box.mk (HV.out.below (rdSl rdInt) hb5)
      have HMC5 := Box.mk (HMC.out.same (hb5.block _ HMC.out.lt))
      have HMO5 := Box.mk (HMO.out.same (hb5.block _ HMO.out.lt))
      have HB5 := Box.mk (below_tr HB.out HB.out.size hb5)
      have HP5 := Box.mk (HPS.out.below mono_pc HB5.out)
      clear hs2 hb5 hnq HC HV HMC HMO HB HPr CR k3
      go_wp2_with fail
      go_loopw [13, 15] (fun t13 t15 wr => ∃ j : Nat, j ≤ nq ∧ t15 = .int .i64 j ∧ Box (wr.ownsRow w5.heap.size 3 1 t13 j (((setS p.cl).take j).map (fun q => Value.int .i64 (fdx q ps)))) ∧ Box (Below w5.heap.size w5 wr)) (fun _ t15 _ => nq - (intOf t15).toNat)
      case atStart => exact ⟨0, Nat.zero_le _, rfl, ⟨World.ownsRow_nil _ _ _ _⟩, ⟨Below.refl _ _⟩⟩
      case round =>
        obtain ⟨j, hj, rfl, HO, HBI⟩ := hrel
        by_cases hjl : j < nq
        · obtain ⟨b2, o2, y, rfl, hb2, hy, hys, hcy⟩ := HS2.out.str_at j hjl
          replace hcy := cellk HBI.out hb2 hcy
          have HY := Box.mk hy
          have CF := Box.mk (r_find y _ np c' ps wr (HP5.out.below mono_pc HBI.out))
          have HLA : Box ((j + 1) * 8 ≤ 140737488355328) := ⟨by omega⟩
          clear hy hys
          go_wp2_with fail
          refine CF.out.mono ?_
          rintro e wk ⟨rfl, rfl⟩
          generalize hfy : fdx y ps = fy at *
          have HFY := Box.mk hfy
          clear hfy CF
          go_wp2_with (at_builtin; refine wpL_app _ w5.heap.size rfl _ _ 30 3 rfl (.int .i64 0) 1 8 Try.underlying30 info_int rfl (by decide) (by decide) u13 _ _ rfl (HO.out.alloc _) (some ⟨_, 0, none⟩) 1 1 [.int .i64 fy] rfl (src_at _ _ _ _ (by simp) rfl) HLA.out (Nat.le_trans HBI.out.size (bel_alloc _ _).size) ?_; intro v3' wa ho3 hg3' hat3)
          have hg3 := grown_al wr hg3' rfl rfl rfl rfl
          have HBN := Box.mk (HBI.out.grown hg3 HBI.out.size (fun q hq => (HO.out.lt q hq).1))
          have HON : Box (wa.ownsRow w5.heap.size 3 1 v3' (j + 1) (((setS p.cl).take (j + 1)).map (fun q => Value.int .i64 (fdx q ps)))) := ⟨by
            rw [take_snoc HY.out, List.map_append, List.map_singleton, HFY.out]
            exact ho3⟩
          clear hg3 hg3' ho3 hat3 HO HBI
          go_roundw
          case rel => exact ⟨j + 1, by omega, by go_num, HON, HBN⟩
          case measure => simp [intOf] <;> omega
        · obtain rfl : j = nq := by omega
          have hall : ((setS p.cl).take j).map (fun q => Value.int .i64 (fdx q ps)) = ((setS p.cl).map (fun q => fdx q ps)).map (Value.int .i64) := by
            rw [HNQ.out, List.take_length, List.map_map]; rfl
          have hll : ((setS p.cl).map (fun q => fdx q ps)).length = j := by rw [List.length_map]; exact HNQ.out.symm
          have ho := HO.out
          have hlo := HO.out.lt
          rw [hall, ← hll] at ho
          obtain ⟨A3, c3, e3, hs3⟩ := own_intsO (ok := fun b => ((w1.heap.size + 1 + 1) < b ∧ some b ≠ v.ownBlock) ∧ b < wr.heap.size) ho (by rw [hll, LIM_eq]; omega) (fun q hq => by
            have h1 := hlo q hq
            have h2 := HC5.out.lt
            exact ⟨⟨by omega, fun e => by have := (HV5.out.lt q e.symm).2; omega⟩, h1.2⟩)
          rw [hll] at e3 hs3
          subst e3
          have HEL : Box (RSlO 1 RIntO (fun b => ((w1.heap.size + 1 + 1) < b ∧ some b ≠ v.ownBlock) ∧ b < wr.heap.size) wr ((setS p.cl).map (fun q => fdx q ps)) [.slice A3 j c3]) := ⟨⟨A3, j, c3, rfl, hs3⟩⟩
          have HV6 := Box.mk (((HV5.out.below (rdSl rdInt) HBI.out)).weak (rdSl rdInt) (ok' := fun b => ((w1.heap.size + 1 + 1) < b ∧ some b ≠ v.ownBlock) ∧ b < wr.heap.size) (fun b hb h => ⟨h, hb⟩))
          obtain ⟨flat, how, hpc⟩ := HV6.out.opened (rdSl rdInt)
          have hnl : ((nxI ps).take i).length = i := by rw [List.length_take]; unfold nxI; rw [List.length_map, ← HNP.out]; omega
          rw [hnl] at how hpc
          have HOW := Box.mk how
          have PC := Box.mk hpc
          have HC6 := Box.mk (HC5.out.below HBI.out)
          have HMC6 := Box.mk (HMC5.out.same (HBI.out.block _ HMC5.out.lt))
          have HMO6 := Box.mk (HMO5.out.same (HBI.out.block _ HMO5.out.lt))
          have HB6 := Box.mk (below_tr HB5.out HB5.out.size HBI.out)
          have HLC : Box ((i + 1) * 24 ≤ 140737488355328) := ⟨by omega⟩
          have HQW : Box ((w1.heap.size + 1 + 1) + 1 ≤ wr.heap.size) := ⟨HC6.out.lt⟩
          have cc1 := HC6.out.cell (j := 1) rfl
          have KC := Box.mk (fun (wa : World) (hg : wr.grownBy wa v.ownBlock) => HC6.out.kept hg (fun e => by have := (HOW.out.lt _ e.symm).1; omega))
          clear hall hll ho hlo hs3 how hpc hnl HO HBI HC5 HV5 HMC5 HMO5 HB5 HP5 HS2 HV6
          go_wp2_with (at_builtin; refine wpL_app _ ((w1.heap.size + 1 + 1) + 1) rfl _ _ 114 30 rfl (.slice none 0 0) 1 24 Try.underlying114 info_sl30 rfl (by decide) (by decide) v _ flat rfl (HOW.out.alloc _) (some ⟨_, 0, none⟩) 1 1 [.slice A3 j c3] rfl (src_at _ _ _ _ (by simp) rfl) HLC.out (Nat.le_trans HQW.out (bel_alloc _ _).size) ?_; intro v8' wa ho8 hg8 hat8; have hf8 := own_form ho8; obtain ⟨A8, c8, e8⟩ := hf8; subst e8; have ca := KC.out wa (grown_al wr hg8 rfl rfl rfl rfl); have ca1 := ca.cell (j := 1) rfl; have ca2 := ca.frozen 1)
          have hg8' := grown_al wr hg8 rfl rfl rfl rfl
          obtain ⟨hcs, hgS⟩ := ca.set 1 (.slice A8 (i + 1) c8)
          have HCN := Box.mk hcs
          have hlt8 := ho8.lt
          have hvl := HOW.out.lt
          have HN := PC.out wa _ ((setS p.cl).map (fun q => fdx q ps)) _ rfl HEL.out ho8 hg8' (fun b e h => h.1.2 e.symm)
          have HN2 := HN.weak (rdSl rdInt) (ok' := fun b => (w1.heap.size + 1 + 1) < b ∧ some b ≠ (Value.slice A8 (i + 1) c8).ownBlock) (fun b _ h => ⟨h.1.1, fun e => by
            rcases hat8 with e2 | e2
            · exact h.1.2 (e.trans e2)
            · rw [e2] at e; injection e with e; have h3 := h.2; simp at e; omega⟩)
          have HVN : Box (OwnO (fun b => (w1.heap.size + 1 + 1) < b ∧ some b ≠ (Value.slice A8 (i + 1) c8).ownBlock) (wa.setCell ⟨(w1.heap.size + 1 + 1), 1, none⟩ (.slice A8 (i + 1) c8)) ((w1.heap.size + 1 + 1) + 1) 30 1 (RSlO 1 RIntO) (.slice A8 (i + 1) c8) ((nxI ps).take (i + 1))) := ⟨by
            rw [nxI_get HX.out]
            refine HN2.kept (rdSl rdInt) hgS ?_ (fun b e h => by injection e with e; have := h.1; omega)
            cases hu : (Value.slice A8 (i + 1) c8).ownBlock with
            | none => exact .inl rfl
            | some q => exact .inr (fun e => by injection e with e; have := (hlt8 q hu).1; omega)⟩
          have HMCN := Box.mk ((HMC6.out.same (hg8'.block _ HMC6.out.lt (fun e => by have := (hvl _ e.symm).1; omega))).same (hgS.block _ (Nat.lt_of_lt_of_le HMC6.out.lt hg8'.size) (fun e => by injection e with e; omega)))
          have HMON := Box.mk ((HMO6.out.same (hg8'.block _ HMO6.out.lt (fun e => by have := (hvl _ e.symm).1; omega))).same (hgS.block _ (Nat.lt_of_lt_of_le HMO6.out.lt hg8'.size) (fun e => by injection e with e; omega)))
          have HB7 := HB6.out.grown hg8' HB6.out.size (fun q hq => by have := (hvl q hq).1; omega)
          have HBN := Box.mk (HB7.grown hgS HB7.size (fun q hq => by injection hq with hq; omega))
          clear hg8 hg8' hcs hgS ca ca1 ca2 hlt8 hvl HN HN2 HB7 ho8 hat8
          go_roundw
          case rel => exact ⟨i + 1, _, by omega, by go_num, HCN, HVN, HMCN, HMON, HBN⟩
          case measure => simp [intOf] <;> omega
    · obtain rfl : i = np := by omega
      have hnx : (nxI ps).take i = nxI ps := by
        rw [List.take_of_length_le]
        unfold nxI
        rw [List.length_map, ← HNP.out]
        exact Nat.le_refl _
      have hnxl : (nxI ps).length = i := by unfold nxI; rw [List.length_map]; exact HNP.out.symm
      have hv := HV.out
      rw [hnx] at hv
      obtain ⟨An, cn, e3, hsn⟩ := hv.slr (rdSl rdInt) (by rw [hnxl, LIM_eq]; omega)
      rw [hnxl] at e3 hsn
      subst e3
      have HRW : RwE ps wr (w1.heap.size + 1 + 1) w1.heap.size (w1.heap.size + 1) A' An i c' cn := ⟨HC.out.cell (j := 0) rfl, HC.out.cell (j := 1) rfl, HC.out.cell (j := 2) rfl, HC.out.cell (j := 3) rfl, HPr.out, hsn, HMC.out, HMO.out, by omega⟩
      have HRW := Box.mk HRW
      have CE : Box (Calls Try.prog 88 #[ptr (w1.heap.size + 1 + 1), .int .i64 (kt : Int), .int .i64 0] wr fun e w' => e = .returned (.tuple #[.int .i64 (eR ps 0 pt.nm), .int .i64 (eL ps 0 pt.nm)]) ∧ wr = w') := ⟨r_enter ps (w1.heap.size + 1 + 1) w1.heap.size (w1.heap.size + 1) A' An i c' cn kt pt 0 wr HRW.out HPK.out HPT.out (HRP.out.ov _ (List.mem_of_getElem? HPK.out)).1⟩
      have HRB := Box.mk (eR_bd HRP.out.ov (o := 0) ⟨by omega, by omega⟩ pt.nm)
      have HLB := Box.mk (eL_01 ps 0 pt.nm)
      have CO := Box.mk (r_open ps (w1.heap.size + 1 + 1) w1.heap.size (w1.heap.size + 1) A' An i c' cn HRP.out m hm12 wr kt pt (eR ps 0 pt.nm) HRW.out HPK.out HRB.out)
      clear hnx hnxl hv hsn HC HV HMC HMO
      generalize eR ps 0 pt.nm = r0 at *
      generalize eL ps 0 pt.nm = l0 at *
      go_wp2_with fail
      refine CE.out.mono ?_
      rintro e wk ⟨rfl, rfl⟩
      go_wp2_with fail
      refine CO.out.mono ?_
      rintro e w9 ⟨v9, rfl, hM9, hE9, hT9⟩
      have hb9 := Opw_ge hM9.1
      have hws : wst ps m pt.nm [] r0 = v9 := wst_is hM9.1 hM9.2
      have hwr : IntKind.i64.wrap (l0 + v9) = l0 + v9 := wrap_i64 (by have := HLB.out; omega) (by have := HLB.out; omega)
      have HWV : Box (wor ms pt.nm (m : Int) = (l0 + v9, 0)) := ⟨by rw [HW.out, hws]⟩
      have HBF : Box (Below w1.heap.size w1 w9) := ⟨⟨hT9.os.trans HB.out.os, hT9.tape.trans HB.out.tape, hT9.output.trans HB.out.output, Nat.le_trans HB.out.size hT9.size, fun q hq => (hT9.block q (Nat.lt_of_lt_of_le hq HB.out.size) (by omega) (by omega)).trans (HB.out.block q hq)⟩⟩
      clear hM9 hE9 hT9 hws CE CO
      go_wp2_with fail
      go_ret2
      exact ⟨by rw [HWV.out]; rfl, below_tr HB1.out HB1.out.size HBF.out⟩
end Go.Proofs.Ytchhjldopecliaa
namespace Go.Proofs.Ytchhjldopecliaa
open Go.RowKit

set_option maxHeartbeats 4000000 in
theorem c_LinkWorst (A : Option Addr) (n c : Nat) (ms : List Md) (x : Str) (k : Int) (w : World) (h : SlR w 5 RMd A n c ms) (hx : x.size ≤ LIM) :
    Calls Try.prog 13 #[.slice A n c, .string x, .int .i64 k] w fun e w' => e = .returned (.bool true) ∧ Below w.heap.size w w' := by
  have hlim := h.lim
  have H := Box.mk h
  clear h
  rw [LIM_eq] at hx
  have ending : ∀ (w1 : World), Below w.heap.size w w1 → Calls Try.prog 16 #[] w1 fun e w' => e = .returned (.bool true) ∧ Below w.heap.size w w' := fun w1 hb => (c_known w1).mono (by rintro e w2 ⟨rfl, hb2⟩; exact ⟨rfl, below_tr hb hb.size hb2⟩)
  have HEND := Box.mk ending
  clear ending
  have law : ∀ w2, Below w.heap.size w w2 → Box (Calls Try.prog 42 #[.slice A n c, .string x, .int .i64 k] w2 fun e w' => e = .returned (.tuple #[.int .i64 (wor ms x k).1, .int .i64 (wor ms x k).2]) ∧ Below w.heap.size w w') := fun w2 hb => ⟨(c_Worst A n c ms x k w2 (H.out.below mono_md hb)).mono (by rintro e w3 ⟨rfl, hb3⟩; exact ⟨rfl, below_tr hb hb.size hb3⟩)⟩
  have law2 : ∀ w2, Below w.heap.size w w2 → Box (Calls Try.prog 43 #[.slice A n c, .string x, .int .i64 k] w2 fun e w' => e = .returned (.tuple #[.int .i64 (wor ms x k).1, .int .i64 (wor ms x k).2]) ∧ Below w.heap.size w w') := fun w2 hb => ⟨(r_Worst A n c ms x k w2 (H.out.below mono_md hb)).mono (by rintro e w3 ⟨rfl, hb3⟩; exact ⟨rfl, below_tr hb hb.size hb3⟩)⟩
  have L1 := Box.mk law
  have L2 := Box.mk law2
  clear law law2
  generalize (wor ms x k).1 = u at *
  generalize (wor ms x k).2 = F at *
  go_enter Try.func13, Try.ntmps13
  go_wp2_with fail
  refine (c_over A n c ms w H.out).mono ?_
  rintro e w1 ⟨⟨q, rfl, hq⟩, hb1⟩
  have HB1 := Box.mk hb1
  clear hb1 hq
  cases q
  case true =>
    go_wp2_with fail
    refine (HEND.out w1 HB1.out).mono ?_
    rintro e w2 ⟨rfl, hb2⟩
    have HB2 := Box.mk hb2
    clear hb2
    go_wp2_with fail
    go_ret
    exact ⟨rfl, HB2.out⟩
  case false =>
  by_cases hxm : ((x.size : Nat) : Int) ≤ 65536
  case neg =>
    go_wp2_with fail
    refine (HEND.out w1 HB1.out).mono ?_
    rintro e w2 ⟨rfl, hb2⟩
    have HB2 := Box.mk hb2
    clear hb2
    go_wp2_with fail
    go_ret
    exact ⟨rfl, HB2.out⟩
  case pos =>
  go_wp2_with fail
  refine (c_wide A n c ms w1 (H.out.below mono_md HB1.out)).mono ?_
  rintro e w2 ⟨⟨q, rfl⟩, hb2⟩
  have HB2 := Box.mk (below_tr HB1.out HB1.out.size hb2)
  clear hb2
  have fin : Box (∀ w3, Below w.heap.size w w3 → True) := ⟨fun _ _ => trivial⟩
  clear fin
  cases q
  case false =>
    go_wp2_with fail
    refine (L1.out w2 HB2.out).out.mono ?_
    rintro e w3 ⟨rfl, hb3⟩
    have HB3 := Box.mk hb3
    clear hb3
    go_wp2_with fail
    refine (L2.out w3 HB3.out).out.mono ?_
    rintro e w4 ⟨rfl, hb4⟩
    have HB4 := Box.mk hb4
    clear hb4
    go_wp2_with fail
    refine (HEND.out w4 HB4.out).mono ?_
    rintro e w5 ⟨rfl, hb5⟩
    have HB5 := Box.mk hb5
    clear hb5
    go_wp2_with fail
    go_ret
    exact ⟨rfl, HB5.out⟩
  case true =>
  go_wp2_with fail
  refine (c_Validate A n c ms w2 (H.out.below mono_md HB2.out)).mono ?_
  rintro e w2v ⟨rfl, hb2v⟩
  have HB2v := Box.mk (below_tr HB2.out HB2.out.size hb2v)
  clear hb2v
  generalize vld ms = V
  by_cases hV : V = 0
  case pos =>
    subst hV
    go_wp2_with fail
    refine (HEND.out w2v HB2v.out).mono ?_
    rintro e w3 ⟨rfl, hb3⟩
    have HB3 := Box.mk hb3
    clear hb3
    go_wp2_with fail
    go_ret
    exact ⟨rfl, HB3.out⟩
  case neg =>
    have hVb : (V == 0) = false := by simpa using hV
    go_wp2_with fail
    refine (L1.out w2v HB2v.out).out.mono ?_
    rintro e w3 ⟨rfl, hb3⟩
    have HB3 := Box.mk hb3
    clear hb3
    go_wp2_with fail
    refine (L2.out w3 HB3.out).out.mono ?_
    rintro e w4 ⟨rfl, hb4⟩
    have HB4 := Box.mk hb4
    clear hb4
    go_wp2_with fail
    refine (HEND.out w4 HB4.out).mono ?_
    rintro e w5 ⟨rfl, hb5⟩
    have HB5 := Box.mk hb5
    clear hb5
    go_wp2_with fail
    go_ret
    exact ⟨rfl, HB5.out⟩
end Go.Proofs.Ytchhjldopecliaa
