/-
What came in as an argument, read as the walks speak of it. No conditions.
-/
import Derived.Test.YtchhjldopecliaaB4
import Derived.SizedLaws
import Derived.ChangeArms
import Derived.DataReads
namespace Go.Proofs.Ytchhjldopecliaa
open Go.RowKit

/-! ### what came in, as the walks speak of it -/
section
variable {H : Type} {enc : TypeId × Value → H} {P : Program} {w : World} {spare : Nat → Bool} {held : Bool}

/-- No list and no text of a datum is longer than any machine holds. -/
def Okw (P : Program) (t : TypeId) (d : DataW H) : Prop := ∀ n ∈ d.weights P t, n ≤ LIM

theorem lim_reach : reachBytes = LIM := by decide

theorem op_str {fuel : Nat} {t : TypeId} {cs : List Value} {d : DataW H} {ps : List MemPlace} (ht : P.underlying t = some .string) (h : DataW.trod enc P w 0 spare held fuel t cs = some (d, ps)) (hw : Okw P t d) : ∃ s, RStr w s cs := by
  obtain ⟨s, rfl, hx, _⟩ := DataW.trod_string ht h
  injection hx with hx
  subst hx
  have := hw s.data.toList.length (by simp [DataW.weights])
  exact ⟨s, rfl, by simpa using this⟩
theorem op_int {fuel : Nat} {t : TypeId} {cs : List Value} {d : DataW H} {ps : List MemPlace} (ht : P.underlying t = some (.int .i64)) (h : DataW.trod enc P w 0 spare held fuel t cs = some (d, ps)) : ∃ x, RInt w x cs := by
  obtain ⟨n, rfl, _, _⟩ := DataW.trod_int ht h
  exact ⟨n, rfl⟩

theorem list_of {α : Type} {p : Nat → α → Prop} : ∀ {n : Nat}, (∀ i, i < n → ∃ x, p i x) → ∃ xs : List α, xs.length = n ∧ ∀ (i : Nat) (x : α), xs[i]? = some x → p i x
  | 0, _ => ⟨[], rfl, by simp⟩
  | n + 1, h => by
    obtain ⟨xs, hl, hx⟩ := list_of (n := n) (fun i hi => h i (by omega))
    obtain ⟨x, hp⟩ := h n (by omega)
    refine ⟨xs ++ [x], by simp [hl], fun i y hy => ?_⟩
    by_cases hi : i < xs.length
    · rw [List.getElem?_append_left hi] at hy
      exact hx i y hy
    · rw [List.getElem?_append_right (by omega)] at hy
      cases hk : i - xs.length with
      | zero =>
        rw [hk] at hy
        obtain rfl : x = y := by simpa using hy
        have : i = n := by omega
        subst this
        exact hp
      | succ q => rw [hk] at hy; simp at hy

theorem weightsAll_mem {e : TypeId} : ∀ {l : List (DataW H)} {d : DataW H}, d ∈ l → ∀ n ∈ d.weights P e, n ∈ DataW.weightsAll P e l
  | [], _, h, _, _ => by cases h
  | x :: r, d, h, n, hn => by
    simp only [DataW.weightsAll, List.mem_append]
    rcases List.mem_cons.1 h with rfl | h
    · exact .inl hn
    · exact .inr (weightsAll_mem h n hn)
theorem addr_add {b o : Nat} {n : Nat} : (⟨b, o, none⟩ : Addr).add n = ⟨b, o + n, none⟩ := by unfold Addr.add; split <;> simp_all

/-- A slice, whose elements are told. -/
theorem op_sl {α : Type} {R : World → α → List Value → Prop} {sz : Nat} {fuel : Nat} {t e : TypeId} {cs : List Value} {d : DataW H} {ps : List MemPlace}
    (ht : P.underlying t = some (.slice e)) (hc : P.cellsOf e = sz) (hsz : 0 < sz) (hby : 1 ≤ P.bytesOf e)
    (helem : ∀ fuel cs d ps, cs.length = sz → DataW.trod enc P w 0 spare held fuel e cs = some (d, ps) → Okw P e d → ∃ x, R w x cs)
    (h : DataW.trod enc P w 0 spare held fuel t cs = some (d, ps)) (hw : Okw P t d) : ∃ xs, RSl sz R w xs cs := by
  rcases DataW.trod_slice ht h with ⟨rfl, hx⟩ | ⟨a, len, cap, elems, rest, n, _, rfl, hx, _, hl, _, hlen, hel, _, _⟩
  · exact ⟨[], none, 0, 0, rfl, rfl, Nat.le_refl _, Nat.zero_le _, fun h => absurd h (Nat.lt_irrefl 0)⟩
  · injection hx with hx _
    subst hx
    have hwl : (elems.length + rest.length) * P.bytesOf e ≤ LIM := by
      have := hw ((elems.length + rest.length) * P.bytesOf e) (by simp [DataW.weights, ht])
      exact this
    have hlim : len ≤ LIM := by
      rw [← hlen]
      have h1 : elems.length + rest.length ≤ (elems.length + rest.length) * P.bytesOf e := Nat.le_mul_of_pos_right _ hby
      omega
    have hE : ∀ i, i < len → ∃ x, ∃ cs', w.cells? 0 (a.add (i * P.cellsOf e)) (P.cellsOf e) = some cs' ∧ R w x cs' := by
      intro i hi
      have key := hel i hi
      rw [List.getElem?_eq_getElem (by omega)] at key
      obtain ⟨cs', h1, h2⟩ := Option.bind_eq_some_iff.1 key
      have hlc := (World.cells?_some h1).2.1
      have hwe : Okw P e (elems[i]'(by omega)).1 := by
        intro q hq
        refine hw q ?_
        simp only [DataW.weights, ht, List.mem_cons, List.mem_append]
        exact .inr (.inl (weightsAll_mem (List.mem_map_of_mem (List.getElem_mem (by omega))) q hq))
      obtain ⟨x, hx⟩ := helem n cs' (elems[i]'(by omega)).1 (elems[i]'(by omega)).2 (by rw [hlc, hc]) h2 hwe
      exact ⟨x, cs', h1, hx⟩
    obtain ⟨xs, hxl, hxs⟩ := list_of hE
    refine ⟨xs, some a, len, cap, rfl, hxl, hl, hlim, fun hn => ?_⟩
    have h0 : ∃ v, w.cell? a = some v := by
      obtain ⟨cs', h1, _⟩ := (hxs 0 (xs[0]'(by omega)) (List.getElem?_eq_getElem (by omega)))
      obtain ⟨_, h2, h3⟩ := World.cells?_some h1
      have := h3 0 (by rw [hc]; exact hsz)
      rw [Nat.zero_mul] at this
      have e : (a.add 0).add 0 = a := by simp [Addr.add]
      rw [e, List.getElem?_eq_getElem (by rw [h2, hc]; exact hsz)] at this
      exact ⟨_, this⟩
    obtain ⟨v, hv⟩ := h0
    obtain ⟨b, off, sp⟩ := a
    obtain rfl : sp = none := by
      cases sp with
      | none => rfl
      | some x =>
        unfold World.cell? at hv
        split at hv <;> simp at hv
    refine ⟨b, off, rfl, World.block_lt_of_cell? w _ hv, fun i x hx => ?_⟩
    obtain ⟨cs', h1, h2⟩ := hxs i x hx
    obtain ⟨_, h3, h4⟩ := World.cells?_some h1
    refine ⟨cs', by rw [h3, hc], h2, fun j u hu => ?_⟩
    have hj : j < P.cellsOf e := by rw [← h3]; exact (List.getElem?_eq_some_iff.1 hu).1
    have := h4 j hj
    rw [hu, addr_add, addr_add, hc] at this
    exact this
end
end Go.Proofs.Ytchhjldopecliaa
