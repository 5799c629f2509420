/-
A row of one's own that may begin inside its block (a queue), of elements of one cell: its head, its tail, one more behind it. No conditions.
-/
import Derived.Test.YtchhjldopecliaaB4
import Derived.ArgAppend
namespace Go.Proofs.Ytchhjldopecliaa
open Go.RowKit

/-- A queue of one's own. -/
def Que (w : World) (base : Nat) (e : TypeId) (v : Value) (xs : List Value) : Prop :=
  (xs = [] ∧ ∃ A, v = .slice A 0 0 ∧ ∀ a, A = some a → base ≤ a.block ∧ a.block < w.heap.size) ∨
  ∃ g off cap cur, v = .slice (some ⟨g, off, none⟩) xs.length cap ∧ base ≤ g ∧ w.heap[g]? = some (.cells cur e (0, 0)) ∧ xs.length ≤ cap ∧ off + cap ≤ maxLen ∧ cur.size = off + cap ∧ (cur.toList.drop off).take xs.length = xs
section
variable {w w1 : World} {base : Nat} {e : TypeId} {v : Value} {xs : List Value}
theorem Que.of_own (h : w.ownsRow base e 1 v xs.length xs) : Que w base e v xs := by
  rcases h.2 with ⟨rfl, h0⟩ | ⟨g, cap, cur, rfl, hb, hg, hnc, hcm, hcs, ht⟩
  · exact .inl ⟨List.eq_nil_of_length_eq_zero h0, none, rfl, fun a ha => by cases ha⟩
  · exact .inr ⟨g, 0, cap, cur, rfl, hb, hg, hnc, by omega, by omega, by simpa using ht⟩
theorem Que.lt (h : Que w base e v xs) : ∀ B, v.ownBlock = some B → base ≤ B ∧ B < w.heap.size := by
  intro B hB
  rcases h with ⟨_, A, rfl, hA⟩ | ⟨g, off, cap, cur, rfl, hb, hg, _⟩
  · cases A with
    | none => simp [Value.ownBlock] at hB
    | some a =>
      have : a.block = B := by simpa [Value.ownBlock] using hB
      subst this
      exact hA a rfl
  · have : g = B := by simpa [Value.ownBlock] using hB
    subst this
    exact ⟨hb, (Array.getElem?_eq_some_iff.1 hg).1⟩
theorem Que.kept {row : Option Nat} (h : Que w base e v xs) (hg : w.grownBy w1 row) (hne : v.ownBlock = none ∨ v.ownBlock ≠ row) : Que w1 base e v xs := by
  rcases h with ⟨h0, A, rfl, hA⟩ | ⟨g, off, cap, cur, rfl, hb, hgg, r⟩
  · exact .inl ⟨h0, A, rfl, fun a ha => ⟨(hA a ha).1, Nat.lt_of_lt_of_le (hA a ha).2 hg.size⟩⟩
  · refine .inr ⟨g, off, cap, cur, rfl, hb, ?_, r⟩
    rw [hg.block g (Array.getElem?_eq_some_iff.1 hgg).1 (by simpa [Value.ownBlock] using hne)]
    exact hgg
theorem Que.below (h : Que w base e v xs) (hb : Below w.heap.size w w1) : Que w1 base e v xs :=
  h.kept (below_gb hb none) (by cases v.ownBlock <;> simp)
theorem Que.alloc (h : Que w base e v xs) (o : Obj) : Que (w.alloc o) base e v xs := h.below (bel_alloc w o)
theorem Que.nil (h : Que w base e v []) : ∃ A c, v = .slice A 0 c := by
  rcases h with ⟨_, A, rfl, _⟩ | ⟨g, off, cap, cur, rfl, _⟩
  · exact ⟨A, 0, rfl⟩
  · exact ⟨_, cap, rfl⟩
/-- The head, and what is behind it. -/
theorem Que.cons {x : Value} {r : List Value} (h : Que w base e v (x :: r)) : ∃ g off cap, v = .slice (some ⟨g, off, none⟩) (r.length + 1) (cap + 1) ∧ r.length ≤ cap ∧ w.cell? ⟨g, off, none⟩ = some x ∧
    Que w base e (.slice (if cap + 1 = 1 then some ⟨g, off, none⟩ else some ⟨g, off + 1, none⟩) r.length cap) r := by
  rcases h with ⟨h0, _⟩ | ⟨g, off, cap, cur, rfl, hb, hg, hnc, hcm, hcs, ht⟩
  · cases h0
  · simp only [List.length_cons] at hnc ht
    obtain ⟨c, rfl⟩ : ∃ c, cap = c + 1 := ⟨cap - 1, by omega⟩
    have hx : cur.toList[off]? = some x := by
      have := congrArg (·[0]?) ht
      simpa using this
    refine ⟨g, off, c, rfl, by omega, ?_, ?_⟩
    · simp only [World.cell?, hg]
      rw [Array.getElem?_toList] at hx
      simpa using hx
    · by_cases hc : c = 0
      · subst hc
        obtain rfl : r = [] := List.eq_nil_of_length_eq_zero (by omega)
        rw [if_pos rfl]
        exact .inl ⟨rfl, _, rfl, fun a ha => by injection ha with ha; subst ha; exact ⟨hb, (Array.getElem?_eq_some_iff.1 hg).1⟩⟩
      · rw [if_neg (by omega)]
        refine .inr ⟨g, off + 1, c, cur, rfl, hb, hg, by omega, by omega, by omega, ?_⟩
        have h2 := congrArg List.tail ht
        simpa [← List.drop_one, List.drop_take, List.drop_drop] using h2
end
theorem addr_addq (g o j : Nat) : (⟨g, o, none⟩ : Addr).add j = ⟨g, o + j, none⟩ := by unfold Addr.add; split <;> simp_all
section
variable {P : Program}
/-- One more behind it. -/
theorem run_app_q (w : World) (base : Nat) (t ty e : TypeId) (z : Value) (bytes : Nat) (ht : P.underlying t = some (.slice e)) (hinfo : (P.info? e).map (fun i => (i.zero, i.size, i.bytes)) = some (some z, 1, bytes))
    (hzs : z.cells.size = 1) (hb0 : 0 < bytes) (v : Value) (xs : List Value) (hown : Que w base e v xs) (a : Addr) (c : Nat) (x : Value) (hx : w.cell? a = some x) (h1 : x.oneCell' = true)
    (hbytes : (xs.length + 1) * bytes ≤ 140737488355328) (hbase : base ≤ w.heap.size) :
    ∃ v' w', (Builtin.append_ #[t, t] ty #[v, .slice (some a) 1 c]).run P w = .ok v' w' ∧ Que w' base e v' (xs ++ [x]) ∧ w.grownBy w' v.ownBlock ∧ (v'.ownBlock = v.ownBlock ∨ ∃ b, v'.ownBlock = some b ∧ w.heap.size ≤ b) := by
  obtain ⟨i, hi, hzz⟩ := Option.map_eq_some_iff.1 hinfo
  simp only [Prod.mk.injEq] at hzz
  obtain ⟨hz, hsz, hby⟩ := hzz
  have hlen : xs.length + 1 ≤ 140737488355328 := Nat.le_trans (Nat.le_mul_of_pos_right _ hb0) hbytes
  have hnews : ∀ j u, [x][j]? = some u → w.cell? (a.add j) = some u := by
    intro j u hu
    cases j with
    | zero =>
      have : x = u := by simpa using hu
      subst this
      have e0 : a.add 0 = a := by simp [Addr.add]
      rw [e0]
      exact hx
    | succ j => simp at hu
  have grows : ∀ (b : Addr) (cap : Nat), cap < xs.length + 1 → (∀ j u, xs[j]? = some u → w.cell? (b.add j) = some u) → v = .slice (some b) xs.length cap →
      ∃ v' w', (Builtin.append_ #[t, t] ty #[v, .slice (some a) 1 c]).run P w = .ok v' w' ∧ Que w' base e v' (xs ++ [x]) ∧ w.grownBy w' v.ownBlock ∧ (v'.ownBlock = v.ownBlock ∨ ∃ b, v'.ownBlock = some b ∧ w.heap.size ≤ b) := by
    intro b cap hcap hcells hv
    obtain ⟨v', w', hr, ho, hg⟩ := run_append_arg_grows (P := P) (w := w) t ty e i z 1 bytes ht hi hz hsz hby hzs (by decide) b xs.length cap xs (by simp) hcells a 1 c [x] (by simp) hnews hcap (by simp only [maxLen]; omega) hbytes
    have ho' : w'.ownsRow w.heap.size e 1 v' (xs ++ [x]).length (xs ++ [x]) := by simpa using ho
    have hq := Que.of_own ho'
    refine ⟨v', w', by rw [hv]; exact hr, ?_, ⟨hg.os, hg.tape, hg.output, hg.size, fun k hk _ => hg.block k hk (by simp)⟩, ?_⟩
    · rcases hq with ⟨h0, _⟩ | ⟨g, off, cap', cur, e1, hb, r⟩
      · simp at h0
      · exact .inr ⟨g, off, cap', cur, e1, Nat.le_trans hbase hb, r⟩
    · rcases hq with ⟨h0, _⟩ | ⟨g, off, cap', cur, e1, hb, r⟩
      · simp at h0
      · exact .inr ⟨g, by rw [e1]; simp [Value.ownBlock], hb⟩
  rcases hown with ⟨h0, A, hv, hA⟩ | ⟨g, off, cap, cur, hv, hbg, hg, hnc, hcm, hcs, htake⟩
  · subst h0
    cases A with
    | none =>
      have ho : w.ownsRow base e 1 v 0 [] := ⟨rfl, .inl ⟨hv, rfl⟩⟩
      obtain ⟨v', w', hr, ho', hg, _, hat⟩ := run_append_own_at (P := P) w base t ty e i z 1 bytes ht hi hz hsz hby hzs (by decide) v 0 [] ho a 1 c [x] (by simp) hnews (by simpa using h1) (by simp only [maxLen]; omega) (by simpa using hbytes) hbase
      refine ⟨v', w', hr, Que.of_own (by simpa using ho'), hg, ?_⟩
      rcases hat with hat | hat
      · exact .inl hat
      · exact .inr ⟨_, hat, Nat.le_refl _⟩
    | some b => exact grows b 0 (by simp) (by simp) (by simpa using hv)
  · have hcell : ∀ j u, xs[j]? = some u → w.cell? ⟨g, off + j, none⟩ = some u := by
      intro j u hu
      rw [← htake, List.getElem?_take] at hu
      split at hu
      · rw [List.getElem?_drop, Array.getElem?_toList] at hu
        simp only [World.cell?, hg]
        simpa using hu
      · cases hu
    by_cases hroom : xs.length + 1 ≤ cap
    · have hr := run_append_room_cells (P := P) (w := w) t ty e i ht hi g off xs.length cap a 1 c [x] (by simp [hsz]) hnews (by simpa using h1) hroom
        (fun j hj => by
          have hj : j < 1 := by simpa using hj
          simp only [World.cell?, hg, hsz]
          simp
          omega)
        (fun j _ => by simp [World.frozen?, hg])
      rw [hsz, Nat.mul_one] at hr
      refine ⟨.slice (some ⟨g, off, none⟩) (xs.length + 1) cap, w.setCell ⟨g, off + xs.length, none⟩ x, by rw [hv]; exact hr, .inr ⟨g, off, cap, cur.setIfInBounds (off + xs.length) x, by simp, hbg, ?_, by simpa using hroom, hcm, by simpa using hcs, ?_⟩, ⟨rfl, rfl, rfl, by simp [World.setCell], fun k hk hne => ?_⟩, .inl (by rw [hv]; rfl)⟩
      · simp [World.setCell, Array.getElem?_modify, hg]
      · rw [Array.toList_setIfInBounds, List.drop_set, if_neg (by omega), Nat.add_sub_cancel_left, List.length_append, List.length_singleton, List.take_add_one, List.take_set, htake, List.set_eq_of_length_le (Nat.le_refl _), List.getElem?_set_self (by have e1 : cur.toList.length = cur.size := rfl; rw [List.length_drop]; omega)]
        rfl
      · simp only [World.setCell]
        have : g ≠ k := fun e2 => hne (by rw [hv, e2]; rfl)
        simp [Array.getElem?_modify, this]
    · exact grows ⟨g, off, none⟩ cap (by omega) (fun j u hu => by rw [addr_addq]; exact hcell j u hu) hv
end
end Go.Proofs.Ytchhjldopecliaa
