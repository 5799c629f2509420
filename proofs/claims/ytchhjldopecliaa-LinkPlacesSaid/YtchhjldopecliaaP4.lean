/-
What another overlay changes in modules; rows of one's own whose elements are many cells. No conditions.
-/
import Derived.Test.YtchhjldopecliaaL15
namespace Go.Proofs.Ytchhjldopecliaa
open Go.RowKit

/-! ### modules with another overlay -/
def setOv (o : Int) (m : Md) : Md := ⟨m.nm, o, m.pr, m.sz, m.cl⟩
def setOvP (o : Int) (p : Pc) : Pc := ⟨p.nm, o, p.sz, p.cl⟩
theorem prM_setOv (o : Int) (m : Md) : prM (setOv o m) = (prM m).map (setOvP o) := by
  unfold prM
  rw [List.map_map]
  rfl
theorem prs_setOv (o : Int) (ms : List Md) : prs (ms.map (setOv o)) = (prs ms).map (setOvP o) := by
  unfold prs
  rw [List.flatMap_map, List.map_flatMap]
  congr 1
  funext m
  exact prM_setOv o m
theorem fnd_setOv (o : Int) (x : Str) (ps : List Pc) : fnd x (ps.map (setOvP o)) = (fnd x ps).map (setOvP o) := by
  unfold fnd
  rw [List.find?_map]
  rfl
theorem clOf_setOv (o : Int) (x : Str) (ps : List Pc) : clOf (ps.map (setOvP o)) x = clOf ps x := by
  unfold clOf
  rw [fnd_setOv]
  cases fnd x ps <;> rfl
theorem ovOf_setOv (o : Int) (x : Str) (ps : List Pc) : ovOf (ps.map (setOvP o)) x = if (fnd x ps).isSome then o else 0 := by
  unfold ovOf
  rw [fnd_setOv]
  cases fnd x ps <;> rfl
theorem missL_setOv (o : Int) (ps : List Pc) : missL (ps.map (setOvP o)) = missL ps := by
  have h1 : called (ps.map (setOvP o)) = called ps := by
    unfold called
    rw [List.flatMap_map]
    rfl
  unfold missL
  rw [h1]
  congr 1
  funext s
  rw [fnd_setOv]
  cases fnd s ps <;> rfl
theorem lStep_cl {ps ps' : List Pc} (h : ∀ x, clOf ps x = clOf ps' x) (top : Str) (rest : List Str) (s : Str) : lStep ps top rest s = lStep ps' top rest s := by
  unfold lStep
  rw [h]
theorem lRun_cl {ps ps' : List Pc} (h : ∀ x, clOf ps x = clOf ps' x) : ∀ (w : List Str) (top : Str) (rest : List Str) (r r' : Int × Int), (lRun ps top rest r w).isNone = (lRun ps' top rest r' w).isNone
  | [], _, _, _, _ => rfl
  | s :: w, top, rest, r, r' => by
    unfold lRun
    rw [lStep_cl h]
    cases lStep ps' top rest s with
    | none => rfl
    | some p => exact lRun_cl h w _ _ _ _
theorem lRun_still {ps : List Pc} {r : Int × Int} (h : ∀ x, entR r (ovOf ps x) = r) : ∀ (w : List Str) (top : Str) (rest : List Str) (n : Int), lRun ps top rest r w = some n → n = r.2
  | [], _, _, n, e => by simpa [lRun, eq_comm] using e
  | s :: w, top, rest, n, e => by
    unfold lRun at e
    cases hl : lStep ps top rest s with
    | none => rw [hl] at e; cases e
    | some p =>
      rw [hl] at e
      simp only [h] at e
      exact lRun_still h w _ _ n e

theorem vld_setOv {ms : List Md} (o : Int) (ho : 0 ≤ o ∧ o ≤ 15) (h : vld ms = 0) : vld (ms.map (setOv o)) = 0 := by
  have hg := vld_good h
  have e1 : largeB (ms.map (setOv o)) = largeB ms := by
    unfold largeB sumL
    rw [List.any_map, List.length_map, List.map_map]
    rfl
  have e2 : (ms.map (setOv o)).any (fun m => !rightB m) = false := by
    rw [List.any_eq_false]
    intro m hm
    obtain ⟨m', hm', rfl⟩ := List.mem_map.1 hm
    have := hg.right m' hm'
    unfold rightB at this ⊢
    simp only [setOv, Bool.and_eq_true, decide_eq_true_eq] at this ⊢
    simp [this.1, this.2.1, ho.1, ho.2, this.2.2.2.2.1, this.2.2.2.2.2]
  have e3 : (ms.map (setOv o)).any misfit = ms.any misfit := by
    rw [List.any_map]
    rfl
  have e4 : namesOf (ms.map (setOv o)) = namesOf ms := by
    unfold namesOf
    rw [List.map_map]
    rfl
  have e5 : procsOf (ms.map (setOv o)) = procsOf ms := by
    unfold procsOf
    rw [List.flatMap_map]
    rfl
  have e6 : ms.any (fun m => !rightB m) = false := by
    rw [List.any_eq_false]
    intro m hm
    simp [hg.right m hm]
  unfold vld at h ⊢
  rw [e1, e2, e3, e4, e5]
  rw [e6] at h
  exact h
theorem opn_setOv {ms : List Md} (o : Int) (ho : 0 ≤ o ∧ o ≤ 15) (h : vld ms = 0) : opn (ms.map (setOv o)) = opn ms := by
  unfold opn
  rw [vld_setOv o ho h, h, missS, missS, prs_setOv, missL_setOv]
theorem opf_setOv {ms : List Md} (o : Int) (ho : 0 ≤ o ∧ o ≤ 15) (h : vld ms = 0) (x : Str) : opf (ms.map (setOv o)) x = opf ms x := by
  unfold opf
  rw [opn_setOv o ho h, prs_setOv, fnd_setOv]
  simp
theorem ldsR_err (ps : List Pc) (x : Str) (walk : List Str) : (ldsR ps x walk).2 = if (lRun ps x [] (entR (0, 0) (ovOf ps x)) walk).isNone then 7 else 0 := by
  unfold ldsR
  cases lRun ps x [] (entR (0, 0) (ovOf ps x)) walk <;> rfl
theorem lds_setOv {ms : List Md} (o : Int) (ho : 0 ≤ o ∧ o ≤ 15) (h : vld ms = 0) (x : Str) (walk : List Str) : (lds (ms.map (setOv o)) x walk).2 = (lds ms x walk).2 := by
  unfold lds
  rw [opf_setOv o ho h]
  split
  · rfl
  · split
    · rfl
    · rw [ldsR_err, ldsR_err, prs_setOv, lRun_cl (fun y => clOf_setOv o y (prs ms))]
theorem lds_root (ms : List Md) (x : Str) (walk : List Str) : (lds (ms.map (setOv 0)) x walk).1 = 0 := by
  unfold lds
  split
  · rfl
  · split
    · rfl
    · have hov : ∀ y, ovOf (prs (ms.map (setOv 0))) y = 0 := by
        intro y
        rw [prs_setOv, ovOf_setOv]
        split <;> rfl
      unfold ldsR
      rw [hov]
      have e : entR (0, 0) 0 = (0, 0) := by simp [entR]
      rw [e]
      cases hr : lRun (prs (ms.map (setOv 0))) x [] (0, 0) walk with
      | none => rfl
      | some n => exact lRun_still (r := (0, 0)) (fun y => by rw [hov]; exact e) walk x [] n hr
theorem lds_one (ms : List Md) (x : Str) (walk : List Str) : (lds (ms.map (setOv 1)) x walk).1 ≤ 1 ∧ ((lds (ms.map (setOv 1)) x walk).2 = 0 → (lds (ms.map (setOv 1)) x walk).1 = 1) := by
  unfold lds
  split
  · rename_i h
    exact ⟨by show (0 : Int) ≤ 1; decide, fun h' => absurd h' h⟩
  · rename_i h
    split
    · exact ⟨by show (0 : Int) ≤ 1; decide, fun h => by cases h⟩
    · have h0 : opf (ms.map (setOv 1)) x = 0 := Classical.not_not.1 h
      have hx : (fnd x (prs ms)).isSome = true := by
        unfold opf at h0
        split at h0
        · rename_i h1; exact absurd h0 h1
        · split at h0
          · cases h0
          · rename_i h2
            rw [prs_setOv, fnd_setOv] at h2
            cases hf : fnd x (prs ms) with
            | none => rw [hf] at h2; exact absurd rfl h2
            | some p => rfl
      have hov : ∀ y, ovOf (prs (ms.map (setOv 1))) y = if (fnd y (prs ms)).isSome then 1 else 0 := fun y => by rw [prs_setOv, ovOf_setOv]
      have e : entR (0, 0) (ovOf (prs (ms.map (setOv 1))) x) = (1, 1) := by rw [hov, hx]; rfl
      unfold ldsR
      rw [e]
      have hst : ∀ y, entR (1, 1) (ovOf (prs (ms.map (setOv 1))) y) = (1, 1) := by
        intro y
        rw [hov]
        split <;> rfl
      cases hr : lRun (prs (ms.map (setOv 1))) x [] (1, 1) walk with
      | none => exact ⟨by show (0 : Int) ≤ 1; decide, fun h => by cases h⟩
      | some n =>
        have := lRun_still hst walk x [] n hr
        simp only at this ⊢
        omega

/-! ### rows of one's own whose elements are many cells -/
theorem flatten_get : ∀ {css : List (List Value)} {sz : Nat}, (∀ cs ∈ css, cs.length = sz) → ∀ {i j : Nat} {cs : List Value} {u : Value}, css[i]? = some cs → cs[j]? = some u → css.flatten[i * sz + j]? = some u
  | [], _, _, _, _, _, _, h, _ => by simp at h
  | c :: r, sz, hl, 0, j, cs, u, h, hu => by
    obtain rfl : c = cs := by simpa using h
    have hj : j < c.length := (List.getElem?_eq_some_iff.1 hu).1
    rw [List.flatten_cons, Nat.zero_mul, Nat.zero_add, List.getElem?_append_left hj]
    exact hu
  | c :: r, sz, hl, i + 1, j, cs, u, h, hu => by
    have hc := hl c (List.mem_cons_self ..)
    rw [List.flatten_cons, List.getElem?_append_right (by rw [hc]; exact Nat.le_trans (Nat.le_mul_of_pos_left _ (Nat.succ_pos i)) (Nat.le_add_right _ _))]
    have e : (i + 1) * sz + j - c.length = i * sz + j := by rw [hc, Nat.succ_mul]; omega
    rw [e]
    exact flatten_get (fun cs hcs => hl cs (List.mem_cons_of_mem _ hcs)) (by simpa using h) hu

/-- A row of one's own, of elements that are told in a world before. -/
def OwnL {α : Type} (w w0 : World) (base : Nat) (e : TypeId) (sz : Nat) (R : World → α → List Value → Prop) (v : Value) (xs : List α) : Prop :=
  ∃ css : List (List Value), w.ownsRow base e sz v xs.length css.flatten ∧ (∀ cs ∈ css, cs.length = sz) ∧ css.length = xs.length ∧ ∀ (i : Nat) (x : α) (cs : List Value), xs[i]? = some x → css[i]? = some cs → R w0 x cs
section
variable {α : Type} {w w0 : World} {base : Nat} {e : TypeId} {sz : Nat} {R : World → α → List Value → Prop} {v : Value} {xs : List α}
theorem OwnL.nil : OwnL w w0 base e sz R (.slice none 0 0) [] := ⟨[], World.ownsRow_nil _ _ _ _, by simp, rfl, by simp⟩
theorem OwnL.kept {w1 : World} {row : Option Nat} (h : OwnL w w0 base e sz R v xs) (hg : w.grownBy w1 row) (hne : v.ownBlock = none ∨ v.ownBlock ≠ row) : OwnL w1 w0 base e sz R v xs := by
  obtain ⟨css, h1, h2⟩ := h
  exact ⟨css, h1.kept hg hne, h2⟩
theorem OwnL.below {w1 : World} (h : OwnL w w0 base e sz R v xs) (hb : Below w.heap.size w w1) : OwnL w1 w0 base e sz R v xs := by
  obtain ⟨css, h1, h2⟩ := h
  exact ⟨css, own_below h1 hb, h2⟩
theorem OwnL.lt (h : OwnL w w0 base e sz R v xs) : ∀ B, v.ownBlock = some B → base ≤ B ∧ B < w.heap.size := by
  obtain ⟨css, h1, _⟩ := h
  exact h1.lt
theorem OwnL.slr (h : OwnL w w0 base e sz R v xs) (hR : Mono R) (hb : Below w0.heap.size w0 w) (hl : xs.length ≤ LIM) : ∃ A c, v = .slice A xs.length c ∧ SlR w sz R A xs.length c xs := by
  obtain ⟨css, ho, hcs, hlen, hx⟩ := h
  rcases ho.2 with ⟨rfl, h0⟩ | ⟨g, cap, cur, rfl, hbb, hg, hnc, hcm, hsz, ht⟩
  · refine ⟨none, 0, by rw [h0], rfl, by omega, hl, fun hn => by omega⟩
  · refine ⟨_, cap, rfl, rfl, hnc, hl, fun _ => ⟨g, 0, rfl, (Array.getElem?_eq_some_iff.1 hg).1, fun i x hxi => ?_⟩⟩
    have hi : i < css.length := by rw [hlen]; exact (List.getElem?_eq_some_iff.1 hxi).1
    refine ⟨css[i], hcs _ (List.getElem_mem hi), hR _ _ _ _ hb (hx i x _ hxi (List.getElem?_eq_getElem hi)), fun j u hu => ?_⟩
    have hfl := flatten_get hcs (List.getElem?_eq_getElem hi) hu
    have := ho.cells (g := g) rfl (i * sz + j) u hfl
    have ha : (⟨g, 0, none⟩ : Addr).add (i * sz + j) = ⟨g, 0 + i * sz + j, none⟩ := by unfold Addr.add; split <;> simp_all
    rwa [ha] at this
theorem OwnL.opened (h : OwnL w w0 base e sz R v xs) : ∃ flat, w.ownsRow base e sz v xs.length flat ∧
    ∀ (w1 : World) (v1 : Value) (x : α) (cs : List Value), cs.length = sz → R w0 x cs → w1.ownsRow base e sz v1 (xs.length + 1) (flat ++ cs) → OwnL w1 w0 base e sz R v1 (xs ++ [x]) := by
  obtain ⟨css, h1, h2, h3, h4⟩ := h
  refine ⟨css.flatten, h1, fun w1 v1 x cs hc hx ho => ⟨css ++ [cs], ?_, ?_, by simp [h3], ?_⟩⟩
  · rw [List.flatten_append, List.length_append]
    simpa using ho
  · intro c hcc
    rcases List.mem_append.1 hcc with hcc | hcc
    · exact h2 c hcc
    · obtain rfl : c = cs := by simpa using hcc
      exact hc
  · intro i y c hy hcc
    by_cases hi : i < xs.length
    · rw [List.getElem?_append_left hi] at hy
      rw [List.getElem?_append_left (by omega)] at hcc
      exact h4 i y c hy hcc
    · rw [List.getElem?_append_right (by omega)] at hy
      rw [List.getElem?_append_right (by omega), h3] at hcc
      cases hk : i - xs.length with
      | zero =>
        rw [hk] at hy hcc
        obtain rfl : x = y := by simpa using hy
        obtain rfl : cs = c := by simpa using hcc
        exact hx
      | succ q => rw [hk] at hy; simp at hy
end
end Go.Proofs.Ytchhjldopecliaa
