/-
What a map does, entry by entry, for keys that the model compares by value: look-up, update, delete, range. No conditions.
-/
import Derived.Test.YtchhjldopecliaaB1
import Derived.Maps.RangeRun
import Derived.Maps.AppendAt
namespace Go.Proofs.Ytchhjldopecliaa
open Go.RowKit

/-! ### maps, at the level of their entries -/
section
variable {κ : Type} [DecidableEq κ]

/-- Where a key stands first, and what it has. -/
def findP (x : κ) : List (κ × Value) → Nat → Option (Nat × Value)
  | [], _ => none
  | (k, v) :: r, i => if x = k then some (i, v) else findP x r (i + 1)

/-- What the model does with keys of a kind. -/
structure KeyOK (P : Program) (K : TypeId) (enc : κ → Value) : Prop where
  check : ∀ x empty w, (Instr.checkKey empty 10000 K (enc x)).run P w = .ok () w
  find : ∀ x (kvs : List (κ × Value)) (es : List MapEntry) w, es.map (fun e => (e.key, e.val)) = kvs.map (fun kv => (enc kv.1, kv.2)) →
    (Instr.findKey K (enc x) es).run P w = .ok (findP x kvs 0) w
  same : ∀ x, Instr.sameBits 10000 (enc x) (enc x) = true

/-- The entries of a map. -/
def EntK (enc : κ → Value) (es : Array MapEntry) (clock : Nat) (kvs : List (κ × Value)) : Prop :=
  es.toList.map (fun e => (e.key, e.val)) = kvs.map (fun kv => (enc kv.1, kv.2)) ∧ (∀ e ∈ es.toList, e.born < clock) ∧ (es.toList.map (·.born)).Nodup ∧ (kvs.map (·.1)).Nodup

def MapK (enc : κ → Value) (w : World) (b : Nat) (kvs : List (κ × Value)) : Prop :=
  ∃ es clock, w.heap[b]? = some (.map es clock) ∧ EntK enc es clock kvs

/-- The value of a key. -/
def getK (x : κ) (kvs : List (κ × Value)) : Option Value := (findP x kvs 0).map (·.2)
def setK (x : κ) (v : Value) : List (κ × Value) → List (κ × Value)
  | [] => [(x, v)]
  | (k, u) :: r => if x = k then (k, v) :: r else (k, u) :: setK x v r
def delK (x : κ) : List (κ × Value) → List (κ × Value)
  | [] => []
  | (k, u) :: r => if x = k then r else (k, u) :: delK x r

theorem findP_shift (x : κ) : ∀ (l : List (κ × Value)) (i : Nat), findP x l i = (findP x l 0).map (fun p => (p.1 + i, p.2))
  | [], i => rfl
  | (k, v) :: r, i => by
    unfold findP
    split
    · simp
    · rw [findP_shift x r (i + 1), findP_shift x r (0 + 1)]
      cases findP x r 0 <;> simp <;> omega
theorem getK_nil (x : κ) : getK x [] = none := rfl
theorem getK_cons (x k : κ) (v : Value) (r : List (κ × Value)) : getK x ((k, v) :: r) = if x = k then some v else getK x r := by
  unfold getK
  rw [findP]
  split
  · rfl
  · rw [findP_shift]
    cases findP x r 0 <;> rfl
theorem getK_none {x : κ} {kvs : List (κ × Value)} : getK x kvs = none ↔ ∀ kv ∈ kvs, kv.1 ≠ x := by
  induction kvs with
  | nil => simp [getK_nil]
  | cons kv r ih =>
    obtain ⟨k, v⟩ := kv
    rw [getK_cons]
    by_cases h : x = k
    · subst h; simp
    · rw [if_neg h, ih]
      constructor
      · intro hr q hq
        rcases List.mem_cons.1 hq with rfl | hq
        · exact fun e => h e.symm
        · exact hr q hq
      · exact fun hr q hq => hr q (List.mem_cons_of_mem _ hq)
theorem getK_some {x : κ} {v : Value} {kvs : List (κ × Value)} (h : getK x kvs = some v) : (x, v) ∈ kvs := by
  induction kvs with
  | nil => simp [getK_nil] at h
  | cons kv r ih =>
    obtain ⟨k, u⟩ := kv
    rw [getK_cons] at h
    split at h
    · rename_i e
      injection h with h
      subst e h
      exact List.mem_cons_self ..
    · exact List.mem_cons_of_mem _ (ih h)
theorem getK_mem {x : κ} {v : Value} {kvs : List (κ × Value)} (hn : (kvs.map (·.1)).Nodup) (h : (x, v) ∈ kvs) : getK x kvs = some v := by
  induction kvs with
  | nil => cases h
  | cons kv r ih =>
    obtain ⟨k, u⟩ := kv
    rw [getK_cons]
    simp only [List.map_cons, List.nodup_cons] at hn
    rcases List.mem_cons.1 h with h | h
    · injection h with h1 h2
      subst h1 h2
      simp
    · rw [if_neg, ih hn.2 h]
      intro e
      exact hn.1 (List.mem_map.2 ⟨_, h, e⟩)
theorem setK_keys (x : κ) (v : Value) : ∀ kvs : List (κ × Value), (setK x v kvs).map (·.1) = if x ∈ kvs.map (·.1) then kvs.map (·.1) else kvs.map (·.1) ++ [x]
  | [] => by simp [setK]
  | (k, u) :: r => by
    unfold setK
    split
    · rename_i h; subst h; simp
    · rename_i h
      rw [List.map_cons, setK_keys x v r]
      simp only [List.map_cons, List.mem_cons, h, false_or]
      split <;> simp
theorem setK_nodup {x : κ} {v : Value} {kvs : List (κ × Value)} (h : (kvs.map (·.1)).Nodup) : ((setK x v kvs).map (·.1)).Nodup := by
  rw [setK_keys]
  split
  · exact h
  · rename_i hx
    rw [List.nodup_append]
    refine ⟨h, by simp, ?_⟩
    intro a ha b hb
    rw [List.mem_singleton] at hb
    subst hb
    rintro rfl
    exact hx ha
theorem getK_setK (x y : κ) (v : Value) : ∀ kvs : List (κ × Value), getK y (setK x v kvs) = if y = x then some v else getK y kvs
  | [] => by simp [setK, getK_cons, getK_nil]
  | (k, u) :: r => by
    unfold setK
    by_cases h : x = k
    · subst h
      rw [if_pos rfl, getK_cons, getK_cons]
      split <;> rfl
    · rw [if_neg h, getK_cons, getK_cons, getK_setK x y v r]
      by_cases h1 : y = k
      · subst h1
        rw [if_pos rfl, if_pos rfl, if_neg (fun e => h e.symm)]
      · rw [if_neg h1, if_neg h1]
theorem setK_new {x : κ} {v : Value} {kvs : List (κ × Value)} (h : getK x kvs = none) : setK x v kvs = kvs ++ [(x, v)] := by
  induction kvs with
  | nil => rfl
  | cons kv r ih =>
    obtain ⟨k, u⟩ := kv
    rw [getK_cons] at h
    split at h
    · cases h
    · rename_i hk
      unfold setK
      rw [if_neg hk, ih h]
      rfl
theorem setK_old {x : κ} {v : Value} {kvs : List (κ × Value)} (hn : (kvs.map (·.1)).Nodup) : ∀ i u, findP x kvs 0 = some (i, u) → kvs[i]? = some (x, u) ∧ setK x v kvs = kvs.set i (x, v) := by
  induction kvs with
  | nil => intro i u h; cases h
  | cons kv r ih =>
    obtain ⟨k, u0⟩ := kv
    intro i u h
    unfold findP at h
    simp only [List.map_cons, List.nodup_cons] at hn
    split at h
    · rename_i e
      subst e
      injection h with h
      injection h with h1 h2
      subst h1 h2
      simp [setK]
    · rename_i e
      rw [findP_shift] at h
      cases hf : findP x r 0 with
      | none => rw [hf] at h; cases h
      | some p =>
        obtain ⟨j, v'⟩ := p
        rw [hf] at h
        simp only [Option.map_some] at h
        injection h with h
        injection h with h1 h2
        subst h1 h2
        obtain ⟨a1, a2⟩ := ih hn.2 j v' hf
        unfold setK
        rw [if_neg e, a2]
        exact ⟨by simpa using a1, by simp⟩
theorem delK_old {x : κ} {kvs : List (κ × Value)} : ∀ i u, findP x kvs 0 = some (i, u) → delK x kvs = kvs.eraseIdx i := by
  induction kvs with
  | nil => intro i u h; cases h
  | cons kv r ih =>
    obtain ⟨k, u0⟩ := kv
    intro i u h
    unfold findP at h
    split at h
    · rename_i e
      injection h with h
      injection h with h1 h2
      subst h1 h2 e
      simp [delK]
    · rename_i e
      rw [findP_shift] at h
      cases hf : findP x r 0 with
      | none => rw [hf] at h; cases h
      | some p =>
        obtain ⟨j, v'⟩ := p
        rw [hf] at h
        simp only [Option.map_some] at h
        injection h with h
        injection h with h1 h2
        subst h1 h2
        unfold delK
        rw [if_neg e, ih j v' hf]
        simp
theorem delK_new {x : κ} {kvs : List (κ × Value)} (h : findP x kvs 0 = none) : delK x kvs = kvs := by
  induction kvs with
  | nil => rfl
  | cons kv r ih =>
    obtain ⟨k, u0⟩ := kv
    unfold findP at h
    split at h
    · cases h
    · rename_i e
      rw [findP_shift] at h
      cases hf : findP x r 0 with
      | none => unfold delK; rw [if_neg e, ih hf]
      | some p => rw [hf] at h; cases h

theorem map_erase {α β : Type} (f : α → β) : ∀ (l : List α) (i : Nat), (l.eraseIdx i).map f = (l.map f).eraseIdx i
  | [], _ => rfl
  | _ :: _, 0 => rfl
  | x :: r, i + 1 => by simp [map_erase f r i]

end

section
variable {κ : Type} {P : Program} {w : World} {b : Nat} {enc : κ → Value} {kvs : List (κ × Value)}

theorem MapK.lt (h : MapK enc w b kvs) : b < w.heap.size := by
  obtain ⟨es, clock, hb, _⟩ := h
  exact (Array.getElem?_eq_some_iff.1 hb).1
theorem MapK.nodup (h : MapK enc w b kvs) : (kvs.map (·.1)).Nodup := by
  obtain ⟨es, clock, hb, _, _, _, h⟩ := h
  exact h
theorem MapK.same {w' : World} (h : MapK enc w b kvs) (hb : w'.heap[b]? = w.heap[b]?) : MapK enc w' b kvs := by
  obtain ⟨es, clock, hh, r⟩ := h
  exact ⟨es, clock, hb.trans hh, r⟩
theorem MapK.below {w' : World} (h : MapK enc w b kvs) (hb : Below w.heap.size w w') : MapK enc w' b kvs := h.same (hb.block b h.lt)
theorem MapK.kept {w' : World} {row : Option Nat} (h : MapK enc w b kvs) (hg : w.grownBy w' row) (hne : some b ≠ row) : MapK enc w' b kvs := h.same (hg.block b h.lt hne)
theorem MapK.alloc (h : MapK enc w b kvs) (o : Obj) : MapK enc (w.alloc o) b kvs := h.same (Below.heap_alloc _ _ _ h.lt)
theorem MapK.setCell (h : MapK enc w b kvs) (a : Addr) (v : Value) : MapK enc (w.setCell a v) b kvs := by
  obtain ⟨es, clock, hh, r⟩ := h
  refine ⟨es, clock, ?_, r⟩
  simp only [World.setCell, Array.getElem?_modify]
  split
  · rw [hh]; rfl
  · exact hh
theorem MapK.drew (h : MapK enc w b kvs) : MapK enc w.drew b kvs := h
theorem MapK_made (w : World) (enc : κ → Value) : MapK enc (w.alloc (.map #[] 0)) w.heap.size [] :=
  ⟨#[], 0, (MapKept.heap_alloc w _).1, by simp, by simp, by simp, by simp⟩

/-! ### a map is ranged over -/
/-- The loop's iterator r over the map b: left is what is still to come. -/
def RangeK (enc : κ → Value) (w : World) (b r : Nat) (left kvs : List (κ × Value)) : Prop :=
  ∃ es clock seen, w.heap[b]? = some (.map es clock) ∧ EntK enc es clock kvs ∧ w.heap[r]? = some (.mapIter (some b) clock seen clock) ∧
    (leftOf es seen).toList.map (fun e => (e.key, e.val)) = left.map (fun kv => (enc kv.1, kv.2)) ∧ left.Sublist kvs

theorem RangeK.mapK {r : Nat} {left : List (κ × Value)} (h : RangeK enc w b r left kvs) : MapK enc w b kvs := by
  obtain ⟨es, clock, seen, hb, hE, _⟩ := h
  exact ⟨es, clock, hb, hE⟩
theorem RangeK.lt {r : Nat} {left : List (κ × Value)} (h : RangeK enc w b r left kvs) : r < w.heap.size := by
  obtain ⟨es, clock, seen, hb, hE, hr, _⟩ := h
  exact (Array.getElem?_eq_some_iff.1 hr).1
theorem RangeK.same {r : Nat} {w' : World} {left : List (κ × Value)} (h : RangeK enc w b r left kvs) (h1 : w'.heap[b]? = w.heap[b]?) (h2 : w'.heap[r]? = w.heap[r]?) : RangeK enc w' b r left kvs := by
  obtain ⟨es, clock, seen, hb, hE, hr, hl⟩ := h
  exact ⟨es, clock, seen, h1.trans hb, hE, h2.trans hr, hl⟩
theorem RangeK.below {r : Nat} {w' : World} {left : List (κ × Value)} (h : RangeK enc w b r left kvs) (hb : Below w.heap.size w w') : RangeK enc w' b r left kvs :=
  h.same (hb.block b h.mapK.lt) (hb.block r h.lt)
theorem RangeK.kept {r : Nat} {w' : World} {left : List (κ × Value)} {row : Option Nat} (h : RangeK enc w b r left kvs) (hg : w.grownBy w' row) (h1 : some b ≠ row) (h2 : some r ≠ row) : RangeK enc w' b r left kvs :=
  h.same (hg.block b h.mapK.lt h1) (hg.block r h.lt h2)
theorem RangeK.alloc {r : Nat} {left : List (κ × Value)} (h : RangeK enc w b r left kvs) (o : Obj) : RangeK enc (w.alloc o) b r left kvs :=
  h.same (Below.heap_alloc _ _ _ h.mapK.lt) (Below.heap_alloc _ _ _ h.lt)

end

section
variable {κ : Type} [DecidableEq κ] {P : Program} {w : World} {b : Nat} {enc : κ → Value} {kvs : List (κ × Value)}
/-- 'm[k]', 'v, ok := m[k]'. -/
theorem MapK.lookup (h : MapK enc w b kvs) {t k e : TypeId} (H : KeyOK P k enc) (ht : P.underlying t = some (.map k e)) {z : Value} (hz : (zeroValue e).run P w = .ok z w) (x : κ) (ok : Bool) :
    (Instr.lookup t (.map (some b)) (enc x) ok).run P w = .ok (if ok then .tuple #[(getK x kvs).getD z, .bool (getK x kvs).isSome] else (getK x kvs).getD z) w := by
  obtain ⟨es, clock, hb, hE, _, _, _⟩ := h
  have hf := H.find x kvs es.toList w hE
  have hg : (getObj b).run P w = .ok (.map es clock) w := by simp [getObj, Sem.run, hb]
  unfold getK
  simp only [Instr.lookup, Sem.run_bind, run_underlying ht, Result.andThen_ok, hg, Sem.run_pure, H.check, hf]
  cases hfx : findP x kvs 0 with
  | none => cases ok <;> simp [hz]
  | some p => cases ok <;> simp

theorem setObj_map_grown {o : Obj} : w.grownBy { w with heap := w.heap.setIfInBounds b o } (some b) :=
  ⟨rfl, rfl, rfl, by simp, fun i _ hi => by simp; rw [Array.getElem?_setIfInBounds_ne]; intro e; subst e; exact hi rfl⟩

/-- 'm[k] = v'. -/
theorem MapK.update (h : MapK enc w b kvs) {t k e : TypeId} (H : KeyOK P k enc) (ht : P.underlying t = some (.map k e)) (x : κ) (v : Value) :
    ∃ w', (Instr.mapUpdate t (.map (some b)) (enc x) v).run P w = .ok () w' ∧ MapK enc w' b (setK x v kvs) ∧ w.grownBy w' (some b) ∧ w'.heap.size = w.heap.size := by
  have hlt := h.lt
  obtain ⟨es, clock, hb, hE, hbo, hno, hnk⟩ := h
  have hf := H.find x kvs es.toList w hE
  have hgo : (getObj b).run P w = .ok (.map es clock) w := by simp [getObj, Sem.run, hb]
  have hso : ∀ o : Obj, (setObj b o).run P w = .ok () { w with heap := w.heap.setIfInBounds b o } := fun o => by simp [setObj, Sem.run, hb]
  have hlen : es.size = kvs.length := by have := congrArg List.length hE; simpa using this
  cases hfx : findP x kvs 0 with
  | none =>
    have hg : getK x kvs = none := by rw [getK, hfx]; rfl
    refine ⟨{ w with heap := w.heap.setIfInBounds b (.map (es.push { key := enc x, val := v, born := clock }) (clock + 1)) }, ?_, ?_, setObj_map_grown, by simp⟩
    · simp only [Instr.mapUpdate, Sem.run_bind, run_underlying ht, Result.andThen_ok, hgo, H.check, hf, hfx, hso]
    · refine ⟨es.push { key := enc x, val := v, born := clock }, clock + 1, by simp [hlt], ?_, ?_, ?_, setK_nodup hnk⟩
      · rw [setK_new hg]; simp [hE]
      · intro e he
        simp at he
        rcases he with he | rfl
        · have := hbo e (by simpa using he); omega
        · simp
      · simp only [Array.toList_push, List.map_append, List.map_cons, List.map_nil]
        rw [List.nodup_append]
        refine ⟨hno, by simp, ?_⟩
        intro a ha c hc
        rw [List.mem_singleton] at hc
        obtain ⟨e, he, rfl⟩ := List.mem_map.1 ha
        have := hbo e he
        omega
  | some p =>
    obtain ⟨i, u⟩ := p
    obtain ⟨hi, hset⟩ := setK_old (v := v) hnk i u hfx
    have hil : i < kvs.length := (List.getElem?_eq_some_iff.1 hi).1
    have hie : i < es.size := by omega
    have hkey : es[i].key = enc x := by
      have h1 := congrArg (·[i]?) hE
      simp only [List.getElem?_map, hi, Option.map_some, Array.getElem?_toList, Array.getElem?_eq_getElem hie] at h1
      injection h1 with h1
      injection h1
    refine ⟨{ w with heap := w.heap.setIfInBounds b (.map (es.modify i fun e => { e with key := enc x, val := v }) clock) }, ?_, ?_, setObj_map_grown, by simp⟩
    · simp only [Instr.mapUpdate, Sem.run_bind, run_underlying ht, Result.andThen_ok, hgo, H.check, hf, hfx, Array.getElem?_eq_getElem hie, Option.map_some, Option.getD_some, hkey, Instr.keyThatStays, H.same, if_true, Sem.run_pure, hso]
    · have hmod : (es.modify i fun e => { e with key := enc x, val := v }).toList = es.toList.set i { es[i] with key := enc x, val := v } := by
        apply List.ext_getElem
        · simp
        · intro j h1 h2
          simp [List.getElem_set]
          split <;> simp_all
      refine ⟨es.modify i fun e => { e with key := enc x, val := v }, clock, by simp [hlt], ?_, ?_, ?_, setK_nodup hnk⟩
      · rw [hset, hmod, List.map_set, List.map_set, hE]
      · intro e he
        rw [hmod] at he
        rcases List.mem_or_eq_of_mem_set he with he | rfl
        · exact hbo e he
        · exact hbo es[i] (by simp)
      · rw [hmod, List.map_set]
        have : (es.toList.map (·.born)).set i es[i].born = es.toList.map (·.born) := by
          have h2 : es[i].born = (es.toList.map (·.born))[i]'(by simpa using hie) := by simp
          rw [h2, List.set_getElem_self]
        rw [show ({ es[i] with key := enc x, val := v } : MapEntry).born = es[i].born from rfl, this]
        exact hno

/-- 'delete(m, k)'. -/
theorem MapK.delete (h : MapK enc w b kvs) {t t2 ty k e : TypeId} (H : KeyOK P k enc) (ht : P.underlying t = some (.map k e)) (x : κ) :
    ∃ w', (Builtin.delete_ #[t, t2] ty #[.map (some b), enc x]).run P w = .ok (.tuple #[]) w' ∧ MapK enc w' b (delK x kvs) ∧ w.grownBy w' (some b) ∧ w'.heap.size = w.heap.size := by
  have hlt := h.lt
  obtain ⟨es, clock, hb, hE, hbo, hno, hnk⟩ := h
  have hf := H.find x kvs es.toList w hE
  have hgo : (getObj b).run P w = .ok (.map es clock) w := by simp [getObj, Sem.run, hb]
  have hso : ∀ o : Obj, (setObj b o).run P w = .ok () { w with heap := w.heap.setIfInBounds b o } := fun o => by simp [setObj, Sem.run, hb]
  have hlen : es.size = kvs.length := by have := congrArg List.length hE; simpa using this
  cases hfx : findP x kvs 0 with
  | none =>
    refine ⟨{ w with heap := w.heap.setIfInBounds b (.map es clock) }, ?_, ?_, setObj_map_grown, by simp⟩
    · simp [Builtin.delete_, run_underlying ht, hgo, H.check, hf, hfx, hso]
    · rw [delK_new hfx]
      exact ⟨es, clock, by simp [hlt], hE, hbo, hno, hnk⟩
  | some p =>
    obtain ⟨i, u⟩ := p
    obtain ⟨hi, _⟩ := setK_old (v := u) hnk i u hfx
    have hil : i < kvs.length := (List.getElem?_eq_some_iff.1 hi).1
    have hie : i < es.size := by omega
    refine ⟨{ w with heap := w.heap.setIfInBounds b (.map (es.eraseIdxIfInBounds i) clock) }, ?_, ?_, setObj_map_grown, by simp⟩
    · simp [Builtin.delete_, run_underlying ht, hgo, H.check, hf, hfx, hso]
    · have hl : (es.eraseIdxIfInBounds i).toList = es.toList.eraseIdx i := by
        rw [Array.eraseIdxIfInBounds, dif_pos hie]; simp
      rw [delK_old i u hfx]
      refine ⟨es.eraseIdxIfInBounds i, clock, by simp [hlt], ?_, ?_, ?_, ?_⟩
      · rw [hl, map_erase, map_erase, hE]
      · intro e he
        rw [hl] at he
        exact hbo e (List.mem_of_mem_eraseIdx he)
      · rw [hl, map_erase]
        exact List.Nodup.sublist (List.eraseIdx_sublist ..) hno
      · rw [map_erase]
        exact List.Nodup.sublist (List.eraseIdx_sublist ..) hnk

end

section
variable {κ : Type} {P : Program} {w : World} {b : Nat} {enc : κ → Value} {kvs : List (κ × Value)}
/-- The loop begins. -/
theorem MapK.range (h : MapK enc w b kvs) {t k e : TypeId} (ht : P.underlying t = some (.map k e)) :
    ∃ w', (Instr.range t (.map (some b))).run P w = .ok (.pointer (some ⟨w.heap.size, 0, none⟩)) w' ∧ RangeK enc w' b w.heap.size kvs kvs ∧ Below w.heap.size w w' ∧ w'.heap.size = w.heap.size + 1 := by
  have hlt := h.lt
  obtain ⟨es, clock, hb, hE⟩ := h
  have hgo : (getObj b).run P w = .ok (.map es clock) w := by simp [getObj, Sem.run, hb]
  refine ⟨w.alloc (.mapIter (some b) clock #[] clock), ?_, ⟨es, clock, #[], (Below.heap_alloc _ _ _ hlt).trans hb, hE, (MapKept.heap_alloc w _).1, ?_, List.Sublist.refl _⟩, (Below.refl _ _).alloc (Nat.le_refl _) _, by simp⟩
  · simp [Instr.range, run_underlying ht, hgo, newObj, Sem.run]
  · have h0 : (leftOf es #[]).toList = es.toList := by
      unfold leftOf
      rw [Array.toList_filter]
      exact List.filter_eq_self.2 (fun e _ => by simp)
    rw [← hE.1, h0]

theorem nodup_map_of {α β : Type} {f : α → β} : ∀ {l : List α}, (l.map f).Nodup → ∀ {a c}, a ∈ l → c ∈ l → f a = f c → a = c
  | [], _, _, _, ha, _, _ => by cases ha
  | x :: r, hn, a, c, ha, hc, hf => by
    simp only [List.map_cons, List.nodup_cons] at hn
    by_cases h1 : a = x
    · by_cases h2 : c = x
      · rw [h1, h2]
      · have h3 : c ∈ r := by simpa [h2] using hc
        exact absurd (List.mem_map.2 ⟨c, h3, by rw [← hf, h1]⟩) hn.1
    · have h3 : a ∈ r := by simpa [h1] using ha
      by_cases h2 : c = x
      · exact absurd (List.mem_map.2 ⟨a, h3, by rw [hf, h2]⟩) hn.1
      · have h4 : c ∈ r := by simpa [h2] using hc
        exact nodup_map_of hn.2 h3 h4 hf

theorem split_map {α β : Type} {f : α → β} : ∀ {l : List α} {x : List β} {m : List β} {y : β}, l.map f = x ++ y :: m → ∃ l1 a l2, l = l1 ++ a :: l2 ∧ l1.map f = x ∧ f a = y ∧ l2.map f = m
  | l, x, m, y, h => by
    obtain ⟨l1, l2, rfl, h1, h2⟩ := List.map_eq_append_iff.1 h
    obtain ⟨a, l3, rfl, h3, h4⟩ := List.map_eq_cons_iff.1 h2
    exact ⟨l1, a, l3, rfl, h1, h3, h4⟩

/-- One step of the loop: it is over, or one of those that are left comes. -/
theorem RangeK.next {r : Nat} {left : List (κ × Value)} (h : RangeK enc w b r left kvs) (ty : TypeId) :
    (left = [] ∧ (Instr.next (.pointer (some ⟨r, 0, none⟩)) false ty).run P w = .ok (.tuple #[.bool false]) w) ∨
    ∃ l1 x v l2 w', left = l1 ++ (x, v) :: l2 ∧ (Instr.next (.pointer (some ⟨r, 0, none⟩)) false ty).run P w = .ok (.tuple #[.bool true, enc x, v]) w' ∧
      (Instr.entry (.pointer (some ⟨r, 0, none⟩))).run P w' = .ok (.tuple #[enc x, v]) w' ∧ RangeK enc w' b r (l1 ++ l2) kvs ∧ w.grownBy w' (some r) ∧ w'.heap.size = w.heap.size := by
  have hrl := h.lt
  have hbl := h.mapK.lt
  obtain ⟨es, clock, seen, hb, hE, hr, hl, hsub⟩ := h
  have hbr : b ≠ r := by rintro rfl; rw [hb] at hr; cases hr
  rcases run_next_at (P := P) w ty r b clock clock seen es clock hr hb hE.2.1 (Nat.le_refl _) with ⟨h0, hrun⟩ | ⟨e, he, w1, hw1, hrun⟩
  · left
    refine ⟨?_, hrun⟩
    have : (leftOf es seen).toList = [] := by apply List.eq_nil_of_length_eq_zero; simpa using h0
    rw [this] at hl
    simpa using hl.symm
  · right
    obtain ⟨p1, p2, hp⟩ := List.append_of_mem he
    have hl' := hl
    rw [hp, List.map_append, List.map_cons] at hl'
    obtain ⟨l1, kv, l2, hleft, q1, q2, q3⟩ := split_map hl'.symm
    obtain ⟨x, v⟩ := kv
    simp only [Prod.mk.injEq] at q2
    obtain ⟨q2a, q2b⟩ := q2
    have hes : e ∈ es.toList := by
      have : e ∈ (leftOf es seen).toList := he
      simp [leftOf] at this
      simpa using this.1
    have hw1h : w1.heap = w.heap := by rcases hw1 with rfl | rfl <;> rfl
    refine ⟨l1, x, v, l2, ChangeMaps.setBlock w1 r (.mapIter (some b) clock (seen.push e.born) clock), hleft, ?_, ?_, ⟨es, clock, seen.push e.born, ?_, hE, ?_, ?_, ?_⟩, ?_, ?_⟩
    · rw [hrun, q2a, q2b]
    · rw [run_entry_at _ r b clock seen es clock e ?_ ?_ hes hE.2.2.1, q2a, q2b]
      · simp [ChangeMaps.setBlock, hw1h, hrl]
      · simp [ChangeMaps.setBlock, hw1h, Array.getElem?_setIfInBounds_ne (Ne.symm hbr), hb]
    · simp [ChangeMaps.setBlock, hw1h, Array.getElem?_setIfInBounds_ne (Ne.symm hbr), hb]
    · simp [ChangeMaps.setBlock, hw1h, hrl]
    · have hnd : ((leftOf es seen).toList.map (·.born)).Nodup := by
        refine List.Nodup.sublist (List.Sublist.map _ ?_) hE.2.2.1
        simp [leftOf]
      have hfil : (leftOf es (seen.push e.born)).toList = p1 ++ p2 := by
        have h1 : (leftOf es (seen.push e.born)).toList = (leftOf es seen).toList.filter (fun y => y.born != e.born) := by
          simp only [leftOf, Array.toList_filter, List.filter_filter]
          apply List.filter_congr
          intro y _
          rw [Array.contains_push, Bool.not_or, Bool.and_comm]
          rfl
        rw [h1, hp, List.filter_append, List.filter_cons]
        rw [hp, List.map_append, List.map_cons, List.nodup_append] at hnd
        obtain ⟨n1, n2, n3⟩ := hnd
        simp only [List.nodup_cons] at n2
        rw [List.filter_eq_self.2, List.filter_eq_self.2]
        · simp
        · intro y hy
          simp
          intro e2
          exact n2.1 (List.mem_map.2 ⟨y, hy, e2⟩)
        · intro y hy
          simp
          intro e2
          exact n3 _ (List.mem_map.2 ⟨y, hy, rfl⟩) _ (List.mem_cons_self ..) e2
      rw [hfil, List.map_append, List.map_append, ← q1, ← q3]
    · rw [hleft] at hsub
      refine List.Sublist.trans ?_ hsub
      exact List.Sublist.append (List.Sublist.refl _) (List.sublist_cons_self _ _)
    · refine ⟨?_, ?_, ?_, by simp [ChangeMaps.setBlock, hw1h], fun i _ hi => ?_⟩
      · rcases hw1 with rfl | rfl <;> rfl
      · rcases hw1 with rfl | rfl <;> rfl
      · rcases hw1 with rfl | rfl <;> rfl
      · simp only [ChangeMaps.setBlock, hw1h]
        rw [Array.getElem?_setIfInBounds_ne]
        intro e; subst e; exact hi rfl
    · simp [ChangeMaps.setBlock, hw1h]
end

/-! ### the kinds of keys -/
theorem keyOK_string {P : Program} {K : TypeId} (hK : P.underlying K = some .string) : KeyOK P K (fun s : Str => Value.string s) where
  check x empty w := by
    have h : ∀ n, (Instr.checkKey empty (n + 1) K (.string x)).run P w = .ok () w := by
      intro n
      rw [Instr.checkKey, Sem.run_bind, run_underlying hK, Result.andThen_ok]
      rfl
    exact h 9999
  find x kvs es w h := by
    have key : ∀ (kvs : List (Str × Value)) (es : List MapEntry) (i : Nat), es.map (fun e => (e.key, e.val)) = kvs.map (fun kv => (Value.string kv.1, kv.2)) →
        Instr.findNow .string (.string x) es i = some (findP x kvs i) := by
      intro kvs
      induction kvs with
      | nil =>
        intro es i h
        obtain rfl : es = [] := by simpa using h
        rfl
      | cons kv r ih =>
        intro es i h
        obtain ⟨k, v⟩ := kv
        obtain ⟨e, es', rfl, h1, h2⟩ := List.map_eq_cons_iff.1 h
        simp only [Prod.mk.injEq] at h1
        unfold Instr.findNow findP
        rw [h1.1]
        simp only [Instr.sameNow]
        by_cases hx : x = k
        · subst hx
          simp only [bbeq, decide_true, if_true, h1.2]
        · rw [if_neg hx]
          have : (x == k) = false := by rw [bbeq]; simpa using hx
          simp only [this]
          exact ih es' (i + 1) h2
    simp only [Instr.findKey, Sem.run_bind, run_underlying hK, Result.andThen_ok, key kvs es 0 h, Sem.run_pure]
  same x := by simp only [Instr.sameBits, bbeq, decide_true]

section
variable {κ : Type} [DecidableEq κ] {P : Program} {enc : κ → Value} {kvs : List (κ × Value)}
/-- 'm[k] = v' at the operation. -/
theorem wp_mapUpdate (w : World) {o : Oper} {a : Act} {Q : Exit → Act → World → Prop} {K' : Act → World → Prop}
    (m x v : Operand) (t : TypeId) (hop : o.op = Op.mapUpdate t m x v) {k e : TypeId} (H : KeyOK P k enc) (ht : P.underlying t = some (.map k e)) (b : Nat) (key : κ) (val : Value)
    (h : MapK enc w b kvs) (hm : a.eval m = .map (some b)) (hx : a.eval x = enc key) (hv : a.eval v = val)
    (hK : ∀ w', MapK enc w' b (setK key val kvs) → w.grownBy w' (some b) → w'.heap.size = w.heap.size → K' (a.put o.dst undef) w') :
    o.wp P a w K' Q := by
  obtain ⟨w', hrun, r1, r2, r3⟩ := h.update H ht key val
  unfold Oper.wp
  simp [execOp, hop, hm, hx, hv, hrun, Result.andThen]
  exact hK w' r1 r2 r3
theorem wpL_mapUpdate (w : World) {ops : Array Oper} {rest : List Oper} {o : Oper} {a : Act} {Q : Exit → Act → World → Prop}
    (hg : o.guard = none) (m x v : Operand) (t : TypeId) (hop : o.op = Op.mapUpdate t m x v) {k e : TypeId} (H : KeyOK P k enc) (ht : P.underlying t = some (.map k e)) (b : Nat) (key : κ) (val : Value)
    (h : MapK enc w b kvs) (hm : a.eval m = .map (some b)) (hx : a.eval x = enc key) (hv : a.eval v = val)
    (hK : ∀ w', MapK enc w' b (setK key val kvs) → w.grownBy w' (some b) → w'.heap.size = w.heap.size → wpList P ops Q rest (a.put o.dst undef) w') :
    wpList P ops Q (o :: rest) a w := by
  refine wpList_plain hg fun K' hK' => ?_
  exact wp_mapUpdate w m x v t hop H ht b key val h hm hx hv (fun w' r1 r2 r3 => hK' _ _ (hK w' r1 r2 r3))
theorem step_mapUpdate (w : World) {ops : Array Oper} {o : Oper} {a : Act} {Q : Exit → Act → World → Prop} {K' : Act → World → Prop} {E : Prop}
    (hg : o.guard = none) (m x v : Operand) (t : TypeId) (hop : o.op = Op.mapUpdate t m x v) {k e : TypeId} (H : KeyOK P k enc) (ht : P.underlying t = some (.map k e)) (b : Nat) (key : κ) (val : Value)
    (h : MapK enc w b kvs) (hm : a.eval m = .map (some b)) (hx : a.eval x = enc key) (hv : a.eval v = val)
    (hK : ∀ w', MapK enc w' b (setK key val kvs) → w.grownBy w' (some b) → w'.heap.size = w.heap.size → K' (a.put o.dst undef) w') :
    if Region.wanted o (yielded ops a.tmps) = true then Oper.wp P o a w K' Q else E := by
  have hw : Region.wanted o (yielded ops a.tmps) = true := by simp [Region.wanted, hg]
  rw [if_pos hw]
  exact wp_mapUpdate w m x v t hop H ht b key val h hm hx hv hK

/-- 'm[k]', 'v, is := m[k]' at the operation. -/
def lkR (ok : Bool) (r : Option Value) (z : Value) : Value := if ok then .tuple #[r.getD z, .bool r.isSome] else r.getD z
theorem wp_lookup (w : World) {o : Oper} {a : Act} {Q : Exit → Act → World → Prop} {K' : Act → World → Prop}
    (m x : Operand) (t : TypeId) (ok : Bool) (hop : o.op = Op.lookup t m x ok) {k e : TypeId} (H : KeyOK P k enc) (ht : P.underlying t = some (.map k e)) {z : Value} (hz : (zeroValue e).run P w = .ok z w) (b : Nat) (key : κ) (r : Option Value)
    (h : MapK enc w b kvs) (hr : getK key kvs = r) (hm : a.eval m = .map (some b)) (hx : a.eval x = enc key)
    (hK : K' (a.put o.dst (lkR ok r z)) w) :
    o.wp P a w K' Q := by
  have hrun := h.lookup H ht hz key ok
  rw [hr] at hrun
  unfold Oper.wp
  simp [execOp, hop, hm, hx, hrun, Result.andThen]
  exact hK
theorem wpL_lookup (w : World) {ops : Array Oper} {rest : List Oper} {o : Oper} {a : Act} {Q : Exit → Act → World → Prop}
    (hg : o.guard = none) (m x : Operand) (t : TypeId) (ok : Bool) (hop : o.op = Op.lookup t m x ok) {k e : TypeId} (H : KeyOK P k enc) (ht : P.underlying t = some (.map k e)) {z : Value} (hz : (zeroValue e).run P w = .ok z w) (b : Nat) (key : κ) (r : Option Value)
    (h : MapK enc w b kvs) (hr : getK key kvs = r) (hm : a.eval m = .map (some b)) (hx : a.eval x = enc key)
    (hK : wpList P ops Q rest (a.put o.dst (lkR ok r z)) w) :
    wpList P ops Q (o :: rest) a w := by
  refine wpList_plain hg fun K' hK' => ?_
  exact wp_lookup w m x t ok hop H ht hz b key r h hr hm hx (hK' _ _ hK)
theorem step_lookup (w : World) {ops : Array Oper} {o : Oper} {a : Act} {Q : Exit → Act → World → Prop} {K' : Act → World → Prop} {E : Prop}
    (hg : o.guard = none) (m x : Operand) (t : TypeId) (ok : Bool) (hop : o.op = Op.lookup t m x ok) {k e : TypeId} (H : KeyOK P k enc) (ht : P.underlying t = some (.map k e)) {z : Value} (hz : (zeroValue e).run P w = .ok z w) (b : Nat) (key : κ) (r : Option Value)
    (h : MapK enc w b kvs) (hr : getK key kvs = r) (hm : a.eval m = .map (some b)) (hx : a.eval x = enc key)
    (hK : K' (a.put o.dst (lkR ok r z)) w) :
    if Region.wanted o (yielded ops a.tmps) = true then Oper.wp P o a w K' Q else E := by
  have hw : Region.wanted o (yielded ops a.tmps) = true := by simp [Region.wanted, hg]
  rw [if_pos hw]
  exact wp_lookup w m x t ok hop H ht hz b key r h hr hm hx hK
end
end Go.Proofs.Ytchhjldopecliaa
