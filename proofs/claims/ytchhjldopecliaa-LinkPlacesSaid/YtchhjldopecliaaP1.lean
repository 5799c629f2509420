/-
Texts in order: sorting, and sets of texts. Plain Lean; no conditions.
-/
import Derived.Lib.SlicesCompact
import Derived.Test.YtchhjldopecliaaB1
namespace Go.Proofs.Ytchhjldopecliaa

/-! ### texts in order -/
abbrev By := List UInt8
def bs (s : Str) : By := s.data.toList
def ob (l : By) : Str := ⟨l.toArray⟩
theorem ob_bs (s : Str) : ob (bs s) = s := by cases s; simp [ob, bs]
theorem bs_ob (l : By) : bs (ob l) = l := by simp [ob, bs]
theorem bs_inj {a b : Str} (h : bs a = bs b) : a = b := by rw [← ob_bs a, ← ob_bs b, h]
theorem map_ob_bs (l : List Str) : (l.map bs).map ob = l := by
  rw [List.map_map]
  have : (ob ∘ bs) = id := funext ob_bs
  rw [this, List.map_id]
theorem map_bs_ob (l : List By) : (l.map ob).map bs = l := by
  rw [List.map_map]
  have : (bs ∘ ob) = id := funext bs_ob
  rw [this, List.map_id]

def leB (x y : By) : Bool := decide (x ≤ y)
theorem leB_trans (a b c : By) (h : leB a b = true) (k : leB b c = true) : leB a c = true := by
  simp only [leB, decide_eq_true_eq] at *
  exact List.le_trans h k
theorem leB_total (a b : By) : (leB a b || leB b a) = true := by
  simp only [leB, Bool.or_eq_true, decide_eq_true_eq]
  exact List.le_total a b

def sortB (l : List By) : List By := l.mergeSort fun x y => decide (x ≤ y)
theorem sortB_perm (l : List By) : (sortB l).Perm l := List.mergeSort_perm l _
theorem sortB_sorted (l : List By) : (sortB l).Pairwise (· ≤ ·) := by
  have := List.pairwise_mergeSort (le := fun x y : By => decide (x ≤ y)) leB_trans leB_total l
  exact this.imp (fun h => by simpa using h)

theorem lt_of_le_ne {a b : By} (h : a ≤ b) (hne : a ≠ b) : a < b := by
  rcases List.le_iff_lt_or_eq.1 h with h | h
  · exact h
  · exact absurd h hne

theorem compact_get (zs : List By) : Lib.compact zs = ((List.range zs.length).filter (Lib.keeps zs.toArray)).map (zs.toArray[·]!) := rfl
theorem compact_mem (zs : List By) (x : By) : x ∈ Lib.compact zs ↔ x ∈ zs := by
  rw [compact_get, List.mem_map]
  constructor
  · rintro ⟨i, hi, rfl⟩
    have h := List.mem_range.1 (List.mem_filter.1 hi |>.1)
    simp [h]
  · intro h
    obtain ⟨i, hi, rfl⟩ := List.mem_iff_getElem.1 h
    have key : ∀ i, ∀ hi : i < zs.length, ∃ a, a ∈ (List.range zs.length).filter (Lib.keeps zs.toArray) ∧ zs.toArray[a]! = zs[i] := by
      intro i
      induction i with
      | zero =>
        intro hi
        refine ⟨0, List.mem_filter.2 ⟨List.mem_range.2 hi, Lib.keeps_lt_one _ 0 (by omega)⟩, by simp [hi]⟩
      | succ i ih =>
        intro hi
        by_cases hk : Lib.keeps zs.toArray (i + 1) = true
        · exact ⟨i + 1, List.mem_filter.2 ⟨List.mem_range.2 hi, hk⟩, by simp [hi]⟩
        · obtain ⟨a, ha, he⟩ := ih (by omega)
          refine ⟨a, ha, he.trans ?_⟩
          have : ¬ (zs.toArray[i + 1]! ≠ zs.toArray[i + 1 - 1]!) := fun h => hk (Lib.keeps_pos h)
          simp only [ne_eq, Classical.not_not, Nat.add_sub_cancel] at this
          have e1 : zs.toArray[i + 1]! = zs[i + 1] := by simp [hi]
          have e2 : zs.toArray[i]! = zs[i] := by simp [show i < zs.length by omega]
          rw [e1, e2] at this
          exact this.symm
    exact key i hi
theorem compact_sorted (zs : List By) (h : zs.Pairwise (· ≤ ·)) : (Lib.compact zs).Pairwise (· < ·) := by
  rw [compact_get, List.pairwise_map]
  have hr : ((List.range zs.length).filter (Lib.keeps zs.toArray)).Pairwise (· < ·) := List.Pairwise.sublist List.filter_sublist List.pairwise_lt_range
  refine List.Pairwise.imp_of_mem ?_ hr
  intro i j hi hj hij
  have hjl := List.mem_range.1 (List.mem_filter.1 hj |>.1)
  have hkj := (List.mem_filter.1 hj).2
  have hne : zs.toArray[j]! ≠ zs.toArray[j - 1]! := fun e => by
    rw [Lib.keeps_neg (by omega) e] at hkj
    cases hkj
  have e1 : zs.toArray[i]! = zs[i] := by simp [show i < zs.length by omega]
  have e2 : zs.toArray[j]! = zs[j] := by simp [hjl]
  have e3 : zs.toArray[j - 1]! = zs[j - 1] := by simp [show j - 1 < zs.length by omega]
  rw [e2, e3] at hne
  rw [e1, e2]
  have hp := List.pairwise_iff_getElem.1 h
  have h1 : zs[j - 1] < zs[j] := lt_of_le_ne (hp (j - 1) j (by omega) hjl (by omega)) (fun e => hne e.symm)
  rcases Nat.lt_or_ge i (j - 1) with h2 | h2
  · exact List.lt_of_le_of_lt (hp i (j - 1) (by omega) (by omega) h2) h1
  · obtain rfl : i = j - 1 := by omega
    exact h1

/-- Two ascending lists with the same members are one. -/
theorem sorted_ext : ∀ {a b : List By}, a.Pairwise (· < ·) → b.Pairwise (· < ·) → (∀ x, x ∈ a ↔ x ∈ b) → a = b
  | [], [], _, _, _ => rfl
  | [], y :: b, _, _, h => absurd ((h y).2 (List.mem_cons_self ..)) (by simp)
  | x :: a, [], _, _, h => absurd ((h x).1 (List.mem_cons_self ..)) (by simp)
  | x :: a, y :: b, ha, hb, h => by
    rw [List.pairwise_cons] at ha hb
    have hxy : x = y := by
      have h1 := (h x).1 (List.mem_cons_self ..)
      have h2 := (h y).2 (List.mem_cons_self ..)
      rcases List.mem_cons.1 h1 with h1 | h1
      · exact h1
      · rcases List.mem_cons.1 h2 with h2 | h2
        · exact h2.symm
        · exact absurd (List.lt_trans (ha.1 _ h2) (hb.1 _ h1)) (List.lt_irrefl _)
    subst hxy
    congr 1
    refine sorted_ext ha.2 hb.2 fun z => ?_
    have := h z
    simp only [List.mem_cons] at this
    constructor
    · intro hz
      rcases this.1 (.inr hz) with e | e
      · subst e; exact absurd (ha.1 _ hz) (List.lt_irrefl _)
      · exact e
    · intro hz
      rcases this.2 (.inr hz) with e | e
      · subst e; exact absurd (hb.1 _ hz) (List.lt_irrefl _)
      · exact e

/-- The set of texts, ascending. -/
def srtS (l : List Str) : List Str := (sortB (l.map bs)).map ob
def setS (l : List Str) : List Str := (Lib.compact (sortB (l.map bs))).map ob
theorem srtS_nil : srtS [] = [] := by simp [srtS, sortB]
theorem setS_nil : setS [] = [] := by simp [setS, sortB, Lib.compact, Lib.compactUpTo]
theorem bs_srtS (l : List Str) : (srtS l).map bs = sortB (l.map bs) := map_bs_ob _
theorem setS_map (l : List Str) : (setS l).map bs = Lib.compact ((srtS l).map bs) := by rw [bs_srtS]; exact map_bs_ob _
theorem setS_sorted (l : List Str) : ((setS l).map bs).Pairwise (· < ·) := by rw [setS_map, bs_srtS]; exact compact_sorted _ (sortB_sorted _)
theorem mem_map_bs {s : Str} {l : List Str} : bs s ∈ l.map bs ↔ s ∈ l := by
  rw [List.mem_map]
  exact ⟨fun ⟨a, ha, e⟩ => bs_inj e ▸ ha, fun h => ⟨s, h, rfl⟩⟩
theorem mem_setS {s : Str} {l : List Str} : s ∈ setS l ↔ s ∈ l := by
  rw [← mem_map_bs, setS_map, compact_mem, bs_srtS, (sortB_perm _).mem_iff, mem_map_bs]
theorem mem_srtS {s : Str} {l : List Str} : s ∈ srtS l ↔ s ∈ l := by
  rw [← mem_map_bs, bs_srtS, (sortB_perm _).mem_iff, mem_map_bs]
theorem srtS_length (l : List Str) : (srtS l).length = l.length := by simp [srtS, sortB]
theorem map_bs_inj {a b : List Str} (h : a.map bs = b.map bs) : a = b := by rw [← map_ob_bs a, ← map_ob_bs b, h]
theorem setS_ext {a b : List Str} (h : ∀ s, s ∈ a ↔ s ∈ b) : setS a = setS b := by
  apply map_bs_inj
  refine sorted_ext (setS_sorted a) (setS_sorted b) fun x => ?_
  have := h (ob x)
  rw [← bs_ob x, mem_map_bs, mem_map_bs, mem_setS, mem_setS]
  exact this
theorem setS_nodup (l : List Str) : (setS l).Nodup := by
  have h := setS_sorted l
  rw [List.pairwise_map] at h
  exact h.imp fun hab e => by subst e; exact List.lt_irrefl _ hab
theorem setS_eq_of_sorted {l : List Str} (h : (l.map bs).Pairwise (· < ·)) : setS l = l := by
  apply map_bs_inj
  refine sorted_ext (setS_sorted l) h fun x => ?_
  rw [← bs_ob x, mem_map_bs, mem_map_bs, mem_setS]
theorem nodup_le {α : Type} [DecidableEq α] : ∀ {a b : List α}, a.Nodup → (∀ x ∈ a, x ∈ b) → a.length ≤ b.length
  | [], b, _, _ => by simp
  | x :: a, b, hn, hs => by
    rw [List.nodup_cons] at hn
    have hx : x ∈ b := hs x (List.mem_cons_self ..)
    have ih := nodup_le (a := a) (b := b.erase x) hn.2 (fun y hy =>
      (List.mem_erase_of_ne (fun e => hn.1 (by rw [← e]; exact hy))).2 (hs y (List.mem_cons_of_mem _ hy)))
    have hl := (List.perm_cons_erase hx).length_eq
    simp only [List.length_cons] at hl ⊢
    omega
theorem nodup_eq {α : Type} [DecidableEq α] : ∀ {a b : List α}, a.Nodup → (∀ x ∈ a, x ∈ b) → a.length = b.length → b.Nodup
  | [], b, _, _, h => by
    have : b = [] := List.eq_nil_of_length_eq_zero (by simpa using h.symm)
    subst this; exact List.nodup_nil
  | x :: a, b, hn, hs, h => by
    rw [List.nodup_cons] at hn
    have hx : x ∈ b := hs x (List.mem_cons_self ..)
    have hp := List.perm_cons_erase hx
    have hl := hp.length_eq
    simp only [List.length_cons] at hl h
    have hs' : ∀ y ∈ a, y ∈ b.erase x := fun y hy =>
      (List.mem_erase_of_ne (fun e => hn.1 (by rw [← e]; exact hy))).2 (hs y (List.mem_cons_of_mem _ hy))
    have ih := nodup_eq (a := a) (b := b.erase x) hn.2 hs' (by omega)
    rw [hp.nodup_iff, List.nodup_cons]
    refine ⟨fun hxe => ?_, ih⟩
    have h5 := nodup_le (a := x :: a) (b := b.erase x) (List.nodup_cons.2 hn) (fun z hz => by
      rcases List.mem_cons.1 hz with rfl | hz
      · exact hxe
      · exact hs' z hz)
    simp only [List.length_cons] at h5
    omega
theorem setS_length_le (l : List Str) : (setS l).length ≤ l.length := nodup_le (setS_nodup l) (fun x hx => mem_setS.1 hx)
theorem twice_iff (l : List Str) : decide ((setS l).length < l.length) = decide (¬ l.Nodup) := by
  rw [decide_eq_decide]
  constructor
  · intro h hn
    have := nodup_le hn (fun x hx => mem_setS.2 hx)
    omega
  · intro h
    have h1 := setS_length_le l
    rcases Nat.lt_or_ge (setS l).length l.length with h2 | h2
    · exact h2
    · exact absurd (nodup_eq (setS_nodup l) (fun x hx => mem_setS.1 hx) (by omega)) h
end Go.Proofs.Ytchhjldopecliaa
