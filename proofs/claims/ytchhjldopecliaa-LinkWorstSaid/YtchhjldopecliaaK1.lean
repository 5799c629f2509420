/-
How slices of plain cells, texts and numbers are read in a world, and that later worlds keep them. No conditions.
What a map does, entry by entry, for keys that the model compares by value: look-up, update, delete, range. No conditions.
How a module (name, overlay, procedures, sizes, calls) lies in a world. No conditions.
What append does onto a row of the call's own, from whatever source. No conditions.
What came in as an argument, read as the walks speak of it. No conditions.
The arguments of this seat's laws, read as the walks speak of them. No conditions.
A row of one's own that may begin inside its block (a queue), of elements of one cell: its head, its tail, one more behind it. No conditions.
Texts in order: sorting, and sets of texts. Plain Lean; no conditions.
DERIVED: THE SHELF's CONTRACTS AT THIS DUMP, IN PLAIN WORDS (tools/lay-plain.mjs out of 'TryShA.lean', which tools/lay-shelf.mjs wrote): THE SAME DECLARATIONS UNDER THE SAME NAMES: 'import', 'namespace', 'open', 'def', 'theorem' AND NOTHING ELSE: no command of the shelf's: FOR A HAND-IN. Each laying: the table of numbers ('.._ren') and one theorem, a field a fact of the dump's own or the kernel's comparison; each contract: ONE APPLICATION.
What slices.Collect and slices.Values do, against an iterator's contract. No further conditions.
What isName computes. Condition: the text is one that a machine can hold.
What slices.IndexFunc and slices.ContainsFunc compute, against a closure's contract. No further conditions.
What the closures of isLarge and isRight compute. No conditions.
What isLarge computes. Condition: the argument is a slice of modules.
What isRight computes. Condition: the argument is a module.
What slices.Contains, room.enter and sum compute. Conditions: as each statement says.
What slices.Sort, slices.Compact, slices.Sorted and isTwice compute. Condition: rows of the call's own.
What Validate computes. Condition: the argument is a slice of modules.
The procedures of modules, and the map that holds them. No conditions.
What procs computes. Condition: modules that fit, without a name twice.
What missing computes. Condition: a map of at most 100 procedures with at most 100 calls each.
What open and openFrom compute. Condition: the argument is a slice of modules.
-/
import Derived.WalkKit
import Derived.WalkSpells
import Derived.WalkLawsBesides
import Derived.Lib.ConvBytes
import Derived.Deep.DeepCutAuto
import Derived.Deep.CutBlock
import Derived.Deep.LoopGhost
import Derived.Deep.QuietTactic
import Derived.BigQuiet
import Derived.KernelRfl
import Derived.Maps.RangeRun
import Derived.Maps.AppendAt
import Derived.Deep.RegionLaw
import Derived.Deep.AppendLies
import Derived.SizedLaws
import Derived.ChangeArms
import Derived.DataReads
import Derived.Test.YtchhjldopecliaaProg
import Derived.ArgAppend
import Derived.Lib.SlicesCompact
import Derived.Shelf.Sort.Plain
import Derived.Shelf.Slices.CompactS
import Derived.Shelf.Slices.In.SortNone
import Derived.Shelf.Slices.In.SortNone2
import Derived.RangeFuncBox
import Derived.RangeFuncLeaves
import Derived.RangeFuncWrites
import Derived.Shelf.Abstract
import Derived.OwnWalkIn
import Derived.TacticsInMore
import Derived.LoopNIn
import Derived.LoopIn
import Derived.Sort.OwnSorted
namespace Go.Proofs.Ytchhjldopecliaa
open Go.RowKit

/-- A fact that the walk's simp does not look into. -/
structure Box (p : Prop) : Prop where mk :: (out : p)

abbrev Str := ByteArray

/-- A bound on lengths. -/
def LIM : Nat := 140737488351232
theorem LIM_eq : LIM = 140737488351232 := rfl

/-- How a value relation lives on in later worlds. -/
def Mono {α : Type} (R : World → α → List Value → Prop) : Prop := ∀ w w' x cs, Below w.heap.size w w' → R w x cs → R w' x cs

/-- A slice that is read: its elements are sz cells each. -/
def SlR {α : Type} (w : World) (sz : Nat) (R : World → α → List Value → Prop) (A : Option Addr) (n c : Nat) (xs : List α) : Prop :=
  xs.length = n ∧ n ≤ c ∧ n ≤ LIM ∧
    (0 < n → ∃ b off, A = some ⟨b, off, none⟩ ∧ b < w.heap.size ∧
      ∀ i x, xs[i]? = some x → ∃ cs, cs.length = sz ∧ R w x cs ∧ ∀ j u, cs[j]? = some u → w.cell? ⟨b, off + i * sz + j, none⟩ = some u)

def RStr : World → Str → List Value → Prop := fun _ s cs => cs = [.string s] ∧ s.size ≤ LIM
def RInt : World → Int → List Value → Prop := fun _ x cs => cs = [.int .i64 x]
def RBool : World → Bool → List Value → Prop := fun _ x cs => cs = [.bool x]
def RSl {α : Type} (sz : Nat) (R : World → α → List Value → Prop) : World → List α → List Value → Prop :=
  fun w xs cs => ∃ A n c, cs = [.slice A n c] ∧ SlR w sz R A n c xs

theorem mono_str : Mono RStr := fun _ _ _ _ _ h => h
theorem mono_int : Mono RInt := fun _ _ _ _ _ h => h
theorem mono_bool : Mono RBool := fun _ _ _ _ _ h => h
theorem SlR.below {α : Type} {w w' : World} {sz : Nat} {R : World → α → List Value → Prop} {A : Option Addr} {n c : Nat} {xs : List α}
    (h : SlR w sz R A n c xs) (hR : Mono R) (hb : Below w.heap.size w w') : SlR w' sz R A n c xs := by
  obtain ⟨h1, h2, h3, h4⟩ := h
  refine ⟨h1, h2, h3, fun hn => ?_⟩
  obtain ⟨b, off, e, hlt, hc⟩ := h4 hn
  refine ⟨b, off, e, Nat.lt_of_lt_of_le hlt hb.size, fun i x hx => ?_⟩
  obtain ⟨cs, hl, hr, hcell⟩ := hc i x hx
  exact ⟨cs, hl, hR _ _ _ _ hb hr, fun j u hu => (hb.cell (p := ⟨b, off + i * sz + j, none⟩) hlt).trans (hcell j u hu)⟩
theorem mono_sl {α : Type} {sz : Nat} {R : World → α → List Value → Prop} (hR : Mono R) : Mono (RSl sz R) := by
  rintro w w' xs cs hb ⟨A, n, c, e, h⟩
  exact ⟨A, n, c, e, h.below hR hb⟩
theorem SlR.len {α : Type} {w : World} {sz : Nat} {R : World → α → List Value → Prop} {A : Option Addr} {n c : Nat} {xs : List α}
    (h : SlR w sz R A n c xs) : xs.length = n := h.1
theorem SlR.lim {α : Type} {w : World} {sz : Nat} {R : World → α → List Value → Prop} {A : Option Addr} {n c : Nat} {xs : List α}
    (h : SlR w sz R A n c xs) : n ≤ 140737488351232 := h.2.2.1
theorem SlR.at_ {α : Type} {w : World} {sz : Nat} {R : World → α → List Value → Prop} {A : Option Addr} {n c : Nat} {xs : List α}
    (h : SlR w sz R A n c xs) (k : Nat) (hk : k < n) : ∃ b off x cs, A = some ⟨b, off, none⟩ ∧ b < w.heap.size ∧ xs[k]? = some x ∧ cs.length = sz ∧ R w x cs ∧
      ∀ j u, cs[j]? = some u → w.cell? ⟨b, off + k * sz + j, none⟩ = some u := by
  obtain ⟨h1, h2, h3, h4⟩ := h
  obtain ⟨b, off, e, hlt, hc⟩ := h4 (by omega)
  have hx : xs[k]? = some (xs[k]'(by omega)) := List.getElem?_eq_getElem (by omega)
  obtain ⟨cs, hl, hr, hcell⟩ := hc k _ hx
  exact ⟨b, off, _, cs, e, hlt, hx, hl, hr, hcell⟩
theorem SlR.str_at {w : World} {A : Option Addr} {n c : Nat} {xs : List Str}
    (h : SlR w 1 RStr A n c xs) (k : Nat) (hk : k < n) : ∃ b off x, A = some ⟨b, off, none⟩ ∧ b < w.heap.size ∧ xs[k]? = some x ∧ x.size ≤ LIM ∧ w.cell? ⟨b, off + k, none⟩ = some (.string x) := by
  obtain ⟨b, off, x, cs, e, hlt, hx, hl, ⟨rfl, hs⟩, hc⟩ := h.at_ k hk
  exact ⟨b, off, x, e, hlt, hx, hs, by simpa using hc 0 _ rfl⟩
theorem SlR.int_at {w : World} {A : Option Addr} {n c : Nat} {xs : List Int}
    (h : SlR w 1 RInt A n c xs) (k : Nat) (hk : k < n) : ∃ b off x, A = some ⟨b, off, none⟩ ∧ b < w.heap.size ∧ xs[k]? = some x ∧ w.cell? ⟨b, off + k, none⟩ = some (.int .i64 x) := by
  obtain ⟨b, off, x, cs, e, hlt, hx, hl, hr, hc⟩ := h.at_ k hk
  have hr : cs = [Value.int .i64 x] := hr
  subst hr
  exact ⟨b, off, x, e, hlt, hx, by simpa using hc 0 _ rfl⟩
theorem SlR.sl_at {α : Type} {sz : Nat} {R : World → α → List Value → Prop} {w : World} {A : Option Addr} {n c : Nat} {xs : List (List α)}
    (h : SlR w 1 (RSl sz R) A n c xs) (k : Nat) (hk : k < n) : ∃ b off x A' n' c', A = some ⟨b, off, none⟩ ∧ b < w.heap.size ∧ xs[k]? = some x ∧
      w.cell? ⟨b, off + k, none⟩ = some (.slice A' n' c') ∧ SlR w sz R A' n' c' x := by
  obtain ⟨b, off, x, cs, e, hlt, hx, hl, ⟨A', n', c', rfl, hs⟩, hc⟩ := h.at_ k hk
  exact ⟨b, off, x, A', n', c', e, hlt, hx, by simpa using hc 0 _ rfl, hs⟩

/-! ### small facts -/
theorem below_bytes {w0 w : World} (h : Below w0.heap.size w0 w) (e : TypeId) (s : ByteArray) : Below w0.heap.size w0 (Lib.bytesWorld w e s) :=
  h.trans ⟨rfl, rfl, rfl, by rw [Lib.bytesWorld_size]; omega, fun i hi => Lib.bytesWorld_at_old w e s i (by have := h.size; omega)⟩
theorem below_tr {B : Nat} {w w1 w2 : World} (h : Below B w w1) (hB : B ≤ w1.heap.size) (k : Below w1.heap.size w1 w2) : Below B w w2 :=
  h.trans (k.mono hB)
theorem below_gb {w w1 : World} (h : Below w.heap.size w w1) (row : Option Nat) : w.grownBy w1 row := ⟨h.os, h.tape, h.output, h.size, fun i hi _ => h.block i hi⟩
theorem bel_alloc (w : World) (o : Obj) : Below w.heap.size w (w.alloc o) := (Below.refl _ _).alloc (Nat.le_refl _) o
theorem bel_alloc2 {w0 w : World} (h : Below w0.heap.size w0 w) (o : Obj) : Below w0.heap.size w0 (w.alloc o) := h.alloc h.size o
theorem cellk {B : Nat} {w w' : World} (hb : Below B w w') {b o : Nat} {v : Value} (hlt : b < B) (h : w.cell? ⟨b, o, none⟩ = some v) : w'.cell? ⟨b, o, none⟩ = some v := (hb.cell (p := ⟨b, o, none⟩) hlt).trans h
theorem ret_bool {a b : Bool} (h : a = b) : Ending.returned (.bool a) = .returned (.bool b) := by rw [h]
theorem ret_int {a b : Int} (h : a = b) : Ending.returned (.int .i64 a) = .returned (.int .i64 b) := by rw [h]

theorem vb {a b : Bool} (h : a = true ↔ b = true) : Value.bool a = .bool b := by rw [Bool.eq_iff_iff.2 h]
theorem rb {a b : Bool} (h : a = true ↔ b = true) : Ending.returned (.bool a) = .returned (.bool b) := by rw [Bool.eq_iff_iff.2 h]
theorem vi {k : IntKind} {a b : Int} (h : a = b) : Value.int k a = .int k b := by rw [h]

theorem bbeq (a b : ByteArray) : (a == b) = decide (a = b) := by
  cases a with | mk a => cases b with | mk b =>
  have : (ByteArray.mk a == ByteArray.mk b) = (a == b) := rfl
  rw [this, Bool.eq_iff_iff]
  simp

instance lawfulStr : LawfulBEq ByteArray where
  eq_of_beq {a b} h := by rw [bbeq] at h; simpa using h
  rfl {a} := by rw [bbeq]; simp
theorem tleq (a b : ByteArray) : (ByteArray.toList a == ByteArray.toList b) = decide (a = b) := by
  rw [ByteArray.toList_eq, ByteArray.toList_eq, Bool.eq_iff_iff]
  cases a; cases b
  simp
theorem tlne (a b : ByteArray) : (ByteArray.toList a != ByteArray.toList b) = !decide (a = b) := by rw [bne, tleq]

/-- The byte of a string at a place. -/
def bAt (s : ByteArray) (i : Nat) : Nat := (s.data.toList.getD i 0).toNat
theorem bAt_lt (s : ByteArray) (i : Nat) : bAt s i < 256 := (s.data.toList.getD i 0).toNat_lt
theorem bAt_get (s : ByteArray) (i : Nat) (h : i < s.size) : (s[i]'h).toNat = bAt s i := by
  unfold bAt
  have h' : i < s.data.toList.length := by simpa using h
  rw [List.getD_eq_getElem?_getD, List.getElem?_eq_getElem h']
  rfl
end Go.Proofs.Ytchhjldopecliaa
namespace Go.Proofs.Ytchhjldopecliaa
open Go.RowKit

/-! ### maps, at the level of their entries -/
section
variable {κ : Type} [DecidableEq κ]

/-- Where a key stands first, and what it has. -/
def findP (x : κ) : List (κ × Value) → Nat → Option (Nat × Value)
  | [], _ => none
  | (k, v) :: r, i => if x = k then some (i, v) else findP x r (i + 1)

/-- What the model does with keys of a kind. -/
structure KeyOK (P : Program) (K : TypeId) (enc : κ → Value) : Prop where
  check : ∀ x empty w, (Instr.checkKey empty 10000 K (enc x)).run P w = .ok () w
  find : ∀ x (kvs : List (κ × Value)) (es : List MapEntry) w, es.map (fun e => (e.key, e.val)) = kvs.map (fun kv => (enc kv.1, kv.2)) →
    (Instr.findKey K (enc x) es).run P w = .ok (findP x kvs 0) w
  same : ∀ x, Instr.sameBits 10000 (enc x) (enc x) = true

/-- The entries of a map. -/
def EntK (enc : κ → Value) (es : Array MapEntry) (clock : Nat) (kvs : List (κ × Value)) : Prop :=
  es.toList.map (fun e => (e.key, e.val)) = kvs.map (fun kv => (enc kv.1, kv.2)) ∧ (∀ e ∈ es.toList, e.born < clock) ∧ (es.toList.map (·.born)).Nodup ∧ (kvs.map (·.1)).Nodup

def MapK (enc : κ → Value) (w : World) (b : Nat) (kvs : List (κ × Value)) : Prop :=
  ∃ es clock, w.heap[b]? = some (.map es clock) ∧ EntK enc es clock kvs

/-- The value of a key. -/
def getK (x : κ) (kvs : List (κ × Value)) : Option Value := (findP x kvs 0).map (·.2)
def setK (x : κ) (v : Value) : List (κ × Value) → List (κ × Value)
  | [] => [(x, v)]
  | (k, u) :: r => if x = k then (k, v) :: r else (k, u) :: setK x v r
def delK (x : κ) : List (κ × Value) → List (κ × Value)
  | [] => []
  | (k, u) :: r => if x = k then r else (k, u) :: delK x r

theorem findP_shift (x : κ) : ∀ (l : List (κ × Value)) (i : Nat), findP x l i = (findP x l 0).map (fun p => (p.1 + i, p.2))
  | [], i => rfl
  | (k, v) :: r, i => by
    unfold findP
    split
    · simp
    · rw [findP_shift x r (i + 1), findP_shift x r (0 + 1)]
      cases findP x r 0 <;> simp <;> omega
theorem getK_nil (x : κ) : getK x [] = none := rfl
theorem getK_cons (x k : κ) (v : Value) (r : List (κ × Value)) : getK x ((k, v) :: r) = if x = k then some v else getK x r := by
  unfold getK
  rw [findP]
  split
  · rfl
  · rw [findP_shift]
    cases findP x r 0 <;> rfl
theorem getK_none {x : κ} {kvs : List (κ × Value)} : getK x kvs = none ↔ ∀ kv ∈ kvs, kv.1 ≠ x := by
  induction kvs with
  | nil => simp [getK_nil]
  | cons kv r ih =>
    obtain ⟨k, v⟩ := kv
    rw [getK_cons]
    by_cases h : x = k
    · subst h; simp
    · rw [if_neg h, ih]
      constructor
      · intro hr q hq
        rcases List.mem_cons.1 hq with rfl | hq
        · exact fun e => h e.symm
        · exact hr q hq
      · exact fun hr q hq => hr q (List.mem_cons_of_mem _ hq)
theorem getK_some {x : κ} {v : Value} {kvs : List (κ × Value)} (h : getK x kvs = some v) : (x, v) ∈ kvs := by
  induction kvs with
  | nil => simp [getK_nil] at h
  | cons kv r ih =>
    obtain ⟨k, u⟩ := kv
    rw [getK_cons] at h
    split at h
    · rename_i e
      injection h with h
      subst e h
      exact List.mem_cons_self ..
    · exact List.mem_cons_of_mem _ (ih h)
theorem getK_mem {x : κ} {v : Value} {kvs : List (κ × Value)} (hn : (kvs.map (·.1)).Nodup) (h : (x, v) ∈ kvs) : getK x kvs = some v := by
  induction kvs with
  | nil => cases h
  | cons kv r ih =>
    obtain ⟨k, u⟩ := kv
    rw [getK_cons]
    simp only [List.map_cons, List.nodup_cons] at hn
    rcases List.mem_cons.1 h with h | h
    · injection h with h1 h2
      subst h1 h2
      simp
    · rw [if_neg, ih hn.2 h]
      intro e
      exact hn.1 (List.mem_map.2 ⟨_, h, e⟩)
theorem setK_keys (x : κ) (v : Value) : ∀ kvs : List (κ × Value), (setK x v kvs).map (·.1) = if x ∈ kvs.map (·.1) then kvs.map (·.1) else kvs.map (·.1) ++ [x]
  | [] => by simp [setK]
  | (k, u) :: r => by
    unfold setK
    split
    · rename_i h; subst h; simp
    · rename_i h
      rw [List.map_cons, setK_keys x v r]
      simp only [List.map_cons, List.mem_cons, h, false_or]
      split <;> simp
theorem setK_nodup {x : κ} {v : Value} {kvs : List (κ × Value)} (h : (kvs.map (·.1)).Nodup) : ((setK x v kvs).map (·.1)).Nodup := by
  rw [setK_keys]
  split
  · exact h
  · rename_i hx
    rw [List.nodup_append]
    refine ⟨h, by simp, ?_⟩
    intro a ha b hb
    rw [List.mem_singleton] at hb
    subst hb
    rintro rfl
    exact hx ha
theorem getK_setK (x y : κ) (v : Value) : ∀ kvs : List (κ × Value), getK y (setK x v kvs) = if y = x then some v else getK y kvs
  | [] => by simp [setK, getK_cons, getK_nil]
  | (k, u) :: r => by
    unfold setK
    by_cases h : x = k
    · subst h
      rw [if_pos rfl, getK_cons, getK_cons]
      split <;> rfl
    · rw [if_neg h, getK_cons, getK_cons, getK_setK x y v r]
      by_cases h1 : y = k
      · subst h1
        rw [if_pos rfl, if_pos rfl, if_neg (fun e => h e.symm)]
      · rw [if_neg h1, if_neg h1]
theorem setK_new {x : κ} {v : Value} {kvs : List (κ × Value)} (h : getK x kvs = none) : setK x v kvs = kvs ++ [(x, v)] := by
  induction kvs with
  | nil => rfl
  | cons kv r ih =>
    obtain ⟨k, u⟩ := kv
    rw [getK_cons] at h
    split at h
    · cases h
    · rename_i hk
      unfold setK
      rw [if_neg hk, ih h]
      rfl
theorem setK_old {x : κ} {v : Value} {kvs : List (κ × Value)} (hn : (kvs.map (·.1)).Nodup) : ∀ i u, findP x kvs 0 = some (i, u) → kvs[i]? = some (x, u) ∧ setK x v kvs = kvs.set i (x, v) := by
  induction kvs with
  | nil => intro i u h; cases h
  | cons kv r ih =>
    obtain ⟨k, u0⟩ := kv
    intro i u h
    unfold findP at h
    simp only [List.map_cons, List.nodup_cons] at hn
    split at h
    · rename_i e
      subst e
      injection h with h
      injection h with h1 h2
      subst h1 h2
      simp [setK]
    · rename_i e
      rw [findP_shift] at h
      cases hf : findP x r 0 with
      | none => rw [hf] at h; cases h
      | some p =>
        obtain ⟨j, v'⟩ := p
        rw [hf] at h
        simp only [Option.map_some] at h
        injection h with h
        injection h with h1 h2
        subst h1 h2
        obtain ⟨a1, a2⟩ := ih hn.2 j v' hf
        unfold setK
        rw [if_neg e, a2]
        exact ⟨by simpa using a1, by simp⟩
theorem delK_old {x : κ} {kvs : List (κ × Value)} : ∀ i u, findP x kvs 0 = some (i, u) → delK x kvs = kvs.eraseIdx i := by
  induction kvs with
  | nil => intro i u h; cases h
  | cons kv r ih =>
    obtain ⟨k, u0⟩ := kv
    intro i u h
    unfold findP at h
    split at h
    · rename_i e
      injection h with h
      injection h with h1 h2
      subst h1 h2 e
      simp [delK]
    · rename_i e
      rw [findP_shift] at h
      cases hf : findP x r 0 with
      | none => rw [hf] at h; cases h
      | some p =>
        obtain ⟨j, v'⟩ := p
        rw [hf] at h
        simp only [Option.map_some] at h
        injection h with h
        injection h with h1 h2
        subst h1 h2
        unfold delK
        rw [if_neg e, ih j v' hf]
        simp
theorem delK_new {x : κ} {kvs : List (κ × Value)} (h : findP x kvs 0 = none) : delK x kvs = kvs := by
  induction kvs with
  | nil => rfl
  | cons kv r ih =>
    obtain ⟨k, u0⟩ := kv
    unfold findP at h
    split at h
    · cases h
    · rename_i e
      rw [findP_shift] at h
      cases hf : findP x r 0 with
      | none => unfold delK; rw [if_neg e, ih hf]
      | some p => rw [hf] at h; cases h

theorem map_erase {α β : Type} (f : α → β) : ∀ (l : List α) (i : Nat), (l.eraseIdx i).map f = (l.map f).eraseIdx i
  | [], _ => rfl
  | _ :: _, 0 => rfl
  | x :: r, i + 1 => by simp [map_erase f r i]

end

section
variable {κ : Type} {P : Program} {w : World} {b : Nat} {enc : κ → Value} {kvs : List (κ × Value)}

theorem MapK.lt (h : MapK enc w b kvs) : b < w.heap.size := by
  obtain ⟨es, clock, hb, _⟩ := h
  exact (Array.getElem?_eq_some_iff.1 hb).1
theorem MapK.nodup (h : MapK enc w b kvs) : (kvs.map (·.1)).Nodup := by
  obtain ⟨es, clock, hb, _, _, _, h⟩ := h
  exact h
theorem MapK.same {w' : World} (h : MapK enc w b kvs) (hb : w'.heap[b]? = w.heap[b]?) : MapK enc w' b kvs := by
  obtain ⟨es, clock, hh, r⟩ := h
  exact ⟨es, clock, hb.trans hh, r⟩
theorem MapK.below {w' : World} (h : MapK enc w b kvs) (hb : Below w.heap.size w w') : MapK enc w' b kvs := h.same (hb.block b h.lt)
theorem MapK.kept {w' : World} {row : Option Nat} (h : MapK enc w b kvs) (hg : w.grownBy w' row) (hne : some b ≠ row) : MapK enc w' b kvs := h.same (hg.block b h.lt hne)
theorem MapK.alloc (h : MapK enc w b kvs) (o : Obj) : MapK enc (w.alloc o) b kvs := h.same (Below.heap_alloc _ _ _ h.lt)
theorem MapK.setCell (h : MapK enc w b kvs) (a : Addr) (v : Value) : MapK enc (w.setCell a v) b kvs := by
  obtain ⟨es, clock, hh, r⟩ := h
  refine ⟨es, clock, ?_, r⟩
  simp only [World.setCell, Array.getElem?_modify]
  split
  · rw [hh]; rfl
  · exact hh
theorem MapK.drew (h : MapK enc w b kvs) : MapK enc w.drew b kvs := h
theorem MapK_made (w : World) (enc : κ → Value) : MapK enc (w.alloc (.map #[] 0)) w.heap.size [] :=
  ⟨#[], 0, (MapKept.heap_alloc w _).1, by simp, by simp, by simp, by simp⟩

/-! ### a map is ranged over -/
/-- The loop's iterator r over the map b: left is what is still to come. -/
def RangeK (enc : κ → Value) (w : World) (b r : Nat) (left kvs : List (κ × Value)) : Prop :=
  ∃ es clock seen, w.heap[b]? = some (.map es clock) ∧ EntK enc es clock kvs ∧ w.heap[r]? = some (.mapIter (some b) clock seen clock) ∧
    (leftOf es seen).toList.map (fun e => (e.key, e.val)) = left.map (fun kv => (enc kv.1, kv.2)) ∧ left.Sublist kvs

theorem RangeK.mapK {r : Nat} {left : List (κ × Value)} (h : RangeK enc w b r left kvs) : MapK enc w b kvs := by
  obtain ⟨es, clock, seen, hb, hE, _⟩ := h
  exact ⟨es, clock, hb, hE⟩
theorem RangeK.lt {r : Nat} {left : List (κ × Value)} (h : RangeK enc w b r left kvs) : r < w.heap.size := by
  obtain ⟨es, clock, seen, hb, hE, hr, _⟩ := h
  exact (Array.getElem?_eq_some_iff.1 hr).1
theorem RangeK.same {r : Nat} {w' : World} {left : List (κ × Value)} (h : RangeK enc w b r left kvs) (h1 : w'.heap[b]? = w.heap[b]?) (h2 : w'.heap[r]? = w.heap[r]?) : RangeK enc w' b r left kvs := by
  obtain ⟨es, clock, seen, hb, hE, hr, hl⟩ := h
  exact ⟨es, clock, seen, h1.trans hb, hE, h2.trans hr, hl⟩
theorem RangeK.below {r : Nat} {w' : World} {left : List (κ × Value)} (h : RangeK enc w b r left kvs) (hb : Below w.heap.size w w') : RangeK enc w' b r left kvs :=
  h.same (hb.block b h.mapK.lt) (hb.block r h.lt)
theorem RangeK.kept {r : Nat} {w' : World} {left : List (κ × Value)} {row : Option Nat} (h : RangeK enc w b r left kvs) (hg : w.grownBy w' row) (h1 : some b ≠ row) (h2 : some r ≠ row) : RangeK enc w' b r left kvs :=
  h.same (hg.block b h.mapK.lt h1) (hg.block r h.lt h2)
theorem RangeK.alloc {r : Nat} {left : List (κ × Value)} (h : RangeK enc w b r left kvs) (o : Obj) : RangeK enc (w.alloc o) b r left kvs :=
  h.same (Below.heap_alloc _ _ _ h.mapK.lt) (Below.heap_alloc _ _ _ h.lt)

end

section
variable {κ : Type} [DecidableEq κ] {P : Program} {w : World} {b : Nat} {enc : κ → Value} {kvs : List (κ × Value)}
/-- 'm[k]', 'v, ok := m[k]'. -/
theorem MapK.lookup (h : MapK enc w b kvs) {t k e : TypeId} (H : KeyOK P k enc) (ht : P.underlying t = some (.map k e)) {z : Value} (hz : (zeroValue e).run P w = .ok z w) (x : κ) (ok : Bool) :
    (Instr.lookup t (.map (some b)) (enc x) ok).run P w = .ok (if ok then .tuple #[(getK x kvs).getD z, .bool (getK x kvs).isSome] else (getK x kvs).getD z) w := by
  obtain ⟨es, clock, hb, hE, _, _, _⟩ := h
  have hf := H.find x kvs es.toList w hE
  have hg : (getObj b).run P w = .ok (.map es clock) w := by simp [getObj, Sem.run, hb]
  unfold getK
  simp only [Instr.lookup, Sem.run_bind, run_underlying ht, Result.andThen_ok, hg, Sem.run_pure, H.check, hf]
  cases hfx : findP x kvs 0 with
  | none => cases ok <;> simp [hz]
  | some p => cases ok <;> simp

theorem setObj_map_grown {o : Obj} : w.grownBy { w with heap := w.heap.setIfInBounds b o } (some b) :=
  ⟨rfl, rfl, rfl, by simp, fun i _ hi => by simp; rw [Array.getElem?_setIfInBounds_ne]; intro e; subst e; exact hi rfl⟩

/-- 'm[k] = v'. -/
theorem MapK.update (h : MapK enc w b kvs) {t k e : TypeId} (H : KeyOK P k enc) (ht : P.underlying t = some (.map k e)) (x : κ) (v : Value) :
    ∃ w', (Instr.mapUpdate t (.map (some b)) (enc x) v).run P w = .ok () w' ∧ MapK enc w' b (setK x v kvs) ∧ w.grownBy w' (some b) ∧ w'.heap.size = w.heap.size := by
  have hlt := h.lt
  obtain ⟨es, clock, hb, hE, hbo, hno, hnk⟩ := h
  have hf := H.find x kvs es.toList w hE
  have hgo : (getObj b).run P w = .ok (.map es clock) w := by simp [getObj, Sem.run, hb]
  have hso : ∀ o : Obj, (setObj b o).run P w = .ok () { w with heap := w.heap.setIfInBounds b o } := fun o => by simp [setObj, Sem.run, hb]
  have hlen : es.size = kvs.length := by have := congrArg List.length hE; simpa using this
  cases hfx : findP x kvs 0 with
  | none =>
    have hg : getK x kvs = none := by rw [getK, hfx]; rfl
    refine ⟨{ w with heap := w.heap.setIfInBounds b (.map (es.push { key := enc x, val := v, born := clock }) (clock + 1)) }, ?_, ?_, setObj_map_grown, by simp⟩
    · simp only [Instr.mapUpdate, Sem.run_bind, run_underlying ht, Result.andThen_ok, hgo, H.check, hf, hfx, hso]
    · refine ⟨es.push { key := enc x, val := v, born := clock }, clock + 1, by simp [hlt], ?_, ?_, ?_, setK_nodup hnk⟩
      · rw [setK_new hg]; simp [hE]
      · intro e he
        simp at he
        rcases he with he | rfl
        · have := hbo e (by simpa using he); omega
        · simp
      · simp only [Array.toList_push, List.map_append, List.map_cons, List.map_nil]
        rw [List.nodup_append]
        refine ⟨hno, by simp, ?_⟩
        intro a ha c hc
        rw [List.mem_singleton] at hc
        obtain ⟨e, he, rfl⟩ := List.mem_map.1 ha
        have := hbo e he
        omega
  | some p =>
    obtain ⟨i, u⟩ := p
    obtain ⟨hi, hset⟩ := setK_old (v := v) hnk i u hfx
    have hil : i < kvs.length := (List.getElem?_eq_some_iff.1 hi).1
    have hie : i < es.size := by omega
    have hkey : es[i].key = enc x := by
      have h1 := congrArg (·[i]?) hE
      simp only [List.getElem?_map, hi, Option.map_some, Array.getElem?_toList, Array.getElem?_eq_getElem hie] at h1
      injection h1 with h1
      injection h1
    refine ⟨{ w with heap := w.heap.setIfInBounds b (.map (es.modify i fun e => { e with key := enc x, val := v }) clock) }, ?_, ?_, setObj_map_grown, by simp⟩
    · simp only [Instr.mapUpdate, Sem.run_bind, run_underlying ht, Result.andThen_ok, hgo, H.check, hf, hfx, Array.getElem?_eq_getElem hie, Option.map_some, Option.getD_some, hkey, Instr.keyThatStays, H.same, if_true, Sem.run_pure, hso]
    · have hmod : (es.modify i fun e => { e with key := enc x, val := v }).toList = es.toList.set i { es[i] with key := enc x, val := v } := by
        apply List.ext_getElem
        · simp
        · intro j h1 h2
          simp [List.getElem_set]
          split <;> simp_all
      refine ⟨es.modify i fun e => { e with key := enc x, val := v }, clock, by simp [hlt], ?_, ?_, ?_, setK_nodup hnk⟩
      · rw [hset, hmod, List.map_set, List.map_set, hE]
      · intro e he
        rw [hmod] at he
        rcases List.mem_or_eq_of_mem_set he with he | rfl
        · exact hbo e he
        · exact hbo es[i] (by simp)
      · rw [hmod, List.map_set]
        have : (es.toList.map (·.born)).set i es[i].born = es.toList.map (·.born) := by
          have h2 : es[i].born = (es.toList.map (·.born))[i]'(by simpa using hie) := by simp
          rw [h2, List.set_getElem_self]
        rw [show ({ es[i] with key := enc x, val := v } : MapEntry).born = es[i].born from rfl, this]
        exact hno

/-- 'delete(m, k)'. -/
theorem MapK.delete (h : MapK enc w b kvs) {t t2 ty k e : TypeId} (H : KeyOK P k enc) (ht : P.underlying t = some (.map k e)) (x : κ) :
    ∃ w', (Builtin.delete_ #[t, t2] ty #[.map (some b), enc x]).run P w = .ok (.tuple #[]) w' ∧ MapK enc w' b (delK x kvs) ∧ w.grownBy w' (some b) ∧ w'.heap.size = w.heap.size := by
  have hlt := h.lt
  obtain ⟨es, clock, hb, hE, hbo, hno, hnk⟩ := h
  have hf := H.find x kvs es.toList w hE
  have hgo : (getObj b).run P w = .ok (.map es clock) w := by simp [getObj, Sem.run, hb]
  have hso : ∀ o : Obj, (setObj b o).run P w = .ok () { w with heap := w.heap.setIfInBounds b o } := fun o => by simp [setObj, Sem.run, hb]
  have hlen : es.size = kvs.length := by have := congrArg List.length hE; simpa using this
  cases hfx : findP x kvs 0 with
  | none =>
    refine ⟨{ w with heap := w.heap.setIfInBounds b (.map es clock) }, ?_, ?_, setObj_map_grown, by simp⟩
    · simp [Builtin.delete_, run_underlying ht, hgo, H.check, hf, hfx, hso]
    · rw [delK_new hfx]
      exact ⟨es, clock, by simp [hlt], hE, hbo, hno, hnk⟩
  | some p =>
    obtain ⟨i, u⟩ := p
    obtain ⟨hi, _⟩ := setK_old (v := u) hnk i u hfx
    have hil : i < kvs.length := (List.getElem?_eq_some_iff.1 hi).1
    have hie : i < es.size := by omega
    refine ⟨{ w with heap := w.heap.setIfInBounds b (.map (es.eraseIdxIfInBounds i) clock) }, ?_, ?_, setObj_map_grown, by simp⟩
    · simp [Builtin.delete_, run_underlying ht, hgo, H.check, hf, hfx, hso]
    · have hl : (es.eraseIdxIfInBounds i).toList = es.toList.eraseIdx i := by
        rw [Array.eraseIdxIfInBounds, dif_pos hie]; simp
      rw [delK_old i u hfx]
      refine ⟨es.eraseIdxIfInBounds i, clock, by simp [hlt], ?_, ?_, ?_, ?_⟩
      · rw [hl, map_erase, map_erase, hE]
      · intro e he
        rw [hl] at he
        exact hbo e (List.mem_of_mem_eraseIdx he)
      · rw [hl, map_erase]
        exact List.Nodup.sublist (List.eraseIdx_sublist ..) hno
      · rw [map_erase]
        exact List.Nodup.sublist (List.eraseIdx_sublist ..) hnk

end

section
variable {κ : Type} {P : Program} {w : World} {b : Nat} {enc : κ → Value} {kvs : List (κ × Value)}
/-- The loop begins. -/
theorem MapK.range (h : MapK enc w b kvs) {t k e : TypeId} (ht : P.underlying t = some (.map k e)) :
    ∃ w', (Instr.range t (.map (some b))).run P w = .ok (.pointer (some ⟨w.heap.size, 0, none⟩)) w' ∧ RangeK enc w' b w.heap.size kvs kvs ∧ Below w.heap.size w w' ∧ w'.heap.size = w.heap.size + 1 := by
  have hlt := h.lt
  obtain ⟨es, clock, hb, hE⟩ := h
  have hgo : (getObj b).run P w = .ok (.map es clock) w := by simp [getObj, Sem.run, hb]
  refine ⟨w.alloc (.mapIter (some b) clock #[] clock), ?_, ⟨es, clock, #[], (Below.heap_alloc _ _ _ hlt).trans hb, hE, (MapKept.heap_alloc w _).1, ?_, List.Sublist.refl _⟩, (Below.refl _ _).alloc (Nat.le_refl _) _, by simp⟩
  · simp [Instr.range, run_underlying ht, hgo, newObj, Sem.run]
  · have h0 : (leftOf es #[]).toList = es.toList := by
      unfold leftOf
      rw [Array.toList_filter]
      exact List.filter_eq_self.2 (fun e _ => by simp)
    rw [← hE.1, h0]

theorem nodup_map_of {α β : Type} {f : α → β} : ∀ {l : List α}, (l.map f).Nodup → ∀ {a c}, a ∈ l → c ∈ l → f a = f c → a = c
  | [], _, _, _, ha, _, _ => by cases ha
  | x :: r, hn, a, c, ha, hc, hf => by
    simp only [List.map_cons, List.nodup_cons] at hn
    by_cases h1 : a = x
    · by_cases h2 : c = x
      · rw [h1, h2]
      · have h3 : c ∈ r := by simpa [h2] using hc
        exact absurd (List.mem_map.2 ⟨c, h3, by rw [← hf, h1]⟩) hn.1
    · have h3 : a ∈ r := by simpa [h1] using ha
      by_cases h2 : c = x
      · exact absurd (List.mem_map.2 ⟨a, h3, by rw [hf, h2]⟩) hn.1
      · have h4 : c ∈ r := by simpa [h2] using hc
        exact nodup_map_of hn.2 h3 h4 hf

theorem split_map {α β : Type} {f : α → β} : ∀ {l : List α} {x : List β} {m : List β} {y : β}, l.map f = x ++ y :: m → ∃ l1 a l2, l = l1 ++ a :: l2 ∧ l1.map f = x ∧ f a = y ∧ l2.map f = m
  | l, x, m, y, h => by
    obtain ⟨l1, l2, rfl, h1, h2⟩ := List.map_eq_append_iff.1 h
    obtain ⟨a, l3, rfl, h3, h4⟩ := List.map_eq_cons_iff.1 h2
    exact ⟨l1, a, l3, rfl, h1, h3, h4⟩

/-- One step of the loop: it is over, or one of those that are left comes. -/
theorem RangeK.next {r : Nat} {left : List (κ × Value)} (h : RangeK enc w b r left kvs) (ty : TypeId) :
    (left = [] ∧ (Instr.next (.pointer (some ⟨r, 0, none⟩)) false ty).run P w = .ok (.tuple #[.bool false]) w) ∨
    ∃ l1 x v l2 w', left = l1 ++ (x, v) :: l2 ∧ (Instr.next (.pointer (some ⟨r, 0, none⟩)) false ty).run P w = .ok (.tuple #[.bool true, enc x, v]) w' ∧
      (Instr.entry (.pointer (some ⟨r, 0, none⟩))).run P w' = .ok (.tuple #[enc x, v]) w' ∧ RangeK enc w' b r (l1 ++ l2) kvs ∧ w.grownBy w' (some r) ∧ w'.heap.size = w.heap.size := by
  have hrl := h.lt
  have hbl := h.mapK.lt
  obtain ⟨es, clock, seen, hb, hE, hr, hl, hsub⟩ := h
  have hbr : b ≠ r := by rintro rfl; rw [hb] at hr; cases hr
  rcases run_next_at (P := P) w ty r b clock clock seen es clock hr hb hE.2.1 (Nat.le_refl _) with ⟨h0, hrun⟩ | ⟨e, he, w1, hw1, hrun⟩
  · left
    refine ⟨?_, hrun⟩
    have : (leftOf es seen).toList = [] := by apply List.eq_nil_of_length_eq_zero; simpa using h0
    rw [this] at hl
    simpa using hl.symm
  · right
    obtain ⟨p1, p2, hp⟩ := List.append_of_mem he
    have hl' := hl
    rw [hp, List.map_append, List.map_cons] at hl'
    obtain ⟨l1, kv, l2, hleft, q1, q2, q3⟩ := split_map hl'.symm
    obtain ⟨x, v⟩ := kv
    simp only [Prod.mk.injEq] at q2
    obtain ⟨q2a, q2b⟩ := q2
    have hes : e ∈ es.toList := by
      have : e ∈ (leftOf es seen).toList := he
      simp [leftOf] at this
      simpa using this.1
    have hw1h : w1.heap = w.heap := by rcases hw1 with rfl | rfl <;> rfl
    refine ⟨l1, x, v, l2, ChangeMaps.setBlock w1 r (.mapIter (some b) clock (seen.push e.born) clock), hleft, ?_, ?_, ⟨es, clock, seen.push e.born, ?_, hE, ?_, ?_, ?_⟩, ?_, ?_⟩
    · rw [hrun, q2a, q2b]
    · rw [run_entry_at _ r b clock seen es clock e ?_ ?_ hes hE.2.2.1, q2a, q2b]
      · simp [ChangeMaps.setBlock, hw1h, hrl]
      · simp [ChangeMaps.setBlock, hw1h, Array.getElem?_setIfInBounds_ne (Ne.symm hbr), hb]
    · simp [ChangeMaps.setBlock, hw1h, Array.getElem?_setIfInBounds_ne (Ne.symm hbr), hb]
    · simp [ChangeMaps.setBlock, hw1h, hrl]
    · have hnd : ((leftOf es seen).toList.map (·.born)).Nodup := by
        refine List.Nodup.sublist (List.Sublist.map _ ?_) hE.2.2.1
        simp [leftOf]
      have hfil : (leftOf es (seen.push e.born)).toList = p1 ++ p2 := by
        have h1 : (leftOf es (seen.push e.born)).toList = (leftOf es seen).toList.filter (fun y => y.born != e.born) := by
          simp only [leftOf, Array.toList_filter, List.filter_filter]
          apply List.filter_congr
          intro y _
          rw [Array.contains_push, Bool.not_or, Bool.and_comm]
          rfl
        rw [h1, hp, List.filter_append, List.filter_cons]
        rw [hp, List.map_append, List.map_cons, List.nodup_append] at hnd
        obtain ⟨n1, n2, n3⟩ := hnd
        simp only [List.nodup_cons] at n2
        rw [List.filter_eq_self.2, List.filter_eq_self.2]
        · simp
        · intro y hy
          simp
          intro e2
          exact n2.1 (List.mem_map.2 ⟨y, hy, e2⟩)
        · intro y hy
          simp
          intro e2
          exact n3 _ (List.mem_map.2 ⟨y, hy, rfl⟩) _ (List.mem_cons_self ..) e2
      rw [hfil, List.map_append, List.map_append, ← q1, ← q3]
    · rw [hleft] at hsub
      refine List.Sublist.trans ?_ hsub
      exact List.Sublist.append (List.Sublist.refl _) (List.sublist_cons_self _ _)
    · refine ⟨?_, ?_, ?_, by simp [ChangeMaps.setBlock, hw1h], fun i _ hi => ?_⟩
      · rcases hw1 with rfl | rfl <;> rfl
      · rcases hw1 with rfl | rfl <;> rfl
      · rcases hw1 with rfl | rfl <;> rfl
      · simp only [ChangeMaps.setBlock, hw1h]
        rw [Array.getElem?_setIfInBounds_ne]
        intro e; subst e; exact hi rfl
    · simp [ChangeMaps.setBlock, hw1h]
end

/-! ### the kinds of keys -/
theorem keyOK_string {P : Program} {K : TypeId} (hK : P.underlying K = some .string) : KeyOK P K (fun s : Str => Value.string s) where
  check x empty w := by
    have h : ∀ n, (Instr.checkKey empty (n + 1) K (.string x)).run P w = .ok () w := by
      intro n
      rw [Instr.checkKey, Sem.run_bind, run_underlying hK, Result.andThen_ok]
      rfl
    exact h 9999
  find x kvs es w h := by
    have key : ∀ (kvs : List (Str × Value)) (es : List MapEntry) (i : Nat), es.map (fun e => (e.key, e.val)) = kvs.map (fun kv => (Value.string kv.1, kv.2)) →
        Instr.findNow .string (.string x) es i = some (findP x kvs i) := by
      intro kvs
      induction kvs with
      | nil =>
        intro es i h
        obtain rfl : es = [] := by simpa using h
        rfl
      | cons kv r ih =>
        intro es i h
        obtain ⟨k, v⟩ := kv
        obtain ⟨e, es', rfl, h1, h2⟩ := List.map_eq_cons_iff.1 h
        simp only [Prod.mk.injEq] at h1
        unfold Instr.findNow findP
        rw [h1.1]
        simp only [Instr.sameNow]
        by_cases hx : x = k
        · subst hx
          simp only [bbeq, decide_true, if_true, h1.2]
        · rw [if_neg hx]
          have : (x == k) = false := by rw [bbeq]; simpa using hx
          simp only [this]
          exact ih es' (i + 1) h2
    simp only [Instr.findKey, Sem.run_bind, run_underlying hK, Result.andThen_ok, key kvs es 0 h, Sem.run_pure]
  same x := by simp only [Instr.sameBits, bbeq, decide_true]

section
variable {κ : Type} [DecidableEq κ] {P : Program} {enc : κ → Value} {kvs : List (κ × Value)}
/-- 'm[k] = v' at the operation. -/
theorem wp_mapUpdate (w : World) {o : Oper} {a : Act} {Q : Exit → Act → World → Prop} {K' : Act → World → Prop}
    (m x v : Operand) (t : TypeId) (hop : o.op = Op.mapUpdate t m x v) {k e : TypeId} (H : KeyOK P k enc) (ht : P.underlying t = some (.map k e)) (b : Nat) (key : κ) (val : Value)
    (h : MapK enc w b kvs) (hm : a.eval m = .map (some b)) (hx : a.eval x = enc key) (hv : a.eval v = val)
    (hK : ∀ w', MapK enc w' b (setK key val kvs) → w.grownBy w' (some b) → w'.heap.size = w.heap.size → K' (a.put o.dst undef) w') :
    o.wp P a w K' Q := by
  obtain ⟨w', hrun, r1, r2, r3⟩ := h.update H ht key val
  unfold Oper.wp
  simp [execOp, hop, hm, hx, hv, hrun, Result.andThen]
  exact hK w' r1 r2 r3
theorem wpL_mapUpdate (w : World) {ops : Array Oper} {rest : List Oper} {o : Oper} {a : Act} {Q : Exit → Act → World → Prop}
    (hg : o.guard = none) (m x v : Operand) (t : TypeId) (hop : o.op = Op.mapUpdate t m x v) {k e : TypeId} (H : KeyOK P k enc) (ht : P.underlying t = some (.map k e)) (b : Nat) (key : κ) (val : Value)
    (h : MapK enc w b kvs) (hm : a.eval m = .map (some b)) (hx : a.eval x = enc key) (hv : a.eval v = val)
    (hK : ∀ w', MapK enc w' b (setK key val kvs) → w.grownBy w' (some b) → w'.heap.size = w.heap.size → wpList P ops Q rest (a.put o.dst undef) w') :
    wpList P ops Q (o :: rest) a w := by
  refine wpList_plain hg fun K' hK' => ?_
  exact wp_mapUpdate w m x v t hop H ht b key val h hm hx hv (fun w' r1 r2 r3 => hK' _ _ (hK w' r1 r2 r3))
theorem step_mapUpdate (w : World) {ops : Array Oper} {o : Oper} {a : Act} {Q : Exit → Act → World → Prop} {K' : Act → World → Prop} {E : Prop}
    (hg : o.guard = none) (m x v : Operand) (t : TypeId) (hop : o.op = Op.mapUpdate t m x v) {k e : TypeId} (H : KeyOK P k enc) (ht : P.underlying t = some (.map k e)) (b : Nat) (key : κ) (val : Value)
    (h : MapK enc w b kvs) (hm : a.eval m = .map (some b)) (hx : a.eval x = enc key) (hv : a.eval v = val)
    (hK : ∀ w', MapK enc w' b (setK key val kvs) → w.grownBy w' (some b) → w'.heap.size = w.heap.size → K' (a.put o.dst undef) w') :
    if Region.wanted o (yielded ops a.tmps) = true then Oper.wp P o a w K' Q else E := by
  have hw : Region.wanted o (yielded ops a.tmps) = true := by simp [Region.wanted, hg]
  rw [if_pos hw]
  exact wp_mapUpdate w m x v t hop H ht b key val h hm hx hv hK

/-- 'm[k]', 'v, is := m[k]' at the operation. -/
def lkR (ok : Bool) (r : Option Value) (z : Value) : Value := if ok then .tuple #[r.getD z, .bool r.isSome] else r.getD z
theorem wp_lookup (w : World) {o : Oper} {a : Act} {Q : Exit → Act → World → Prop} {K' : Act → World → Prop}
    (m x : Operand) (t : TypeId) (ok : Bool) (hop : o.op = Op.lookup t m x ok) {k e : TypeId} (H : KeyOK P k enc) (ht : P.underlying t = some (.map k e)) {z : Value} (hz : (zeroValue e).run P w = .ok z w) (b : Nat) (key : κ) (r : Option Value)
    (h : MapK enc w b kvs) (hr : getK key kvs = r) (hm : a.eval m = .map (some b)) (hx : a.eval x = enc key)
    (hK : K' (a.put o.dst (lkR ok r z)) w) :
    o.wp P a w K' Q := by
  have hrun := h.lookup H ht hz key ok
  rw [hr] at hrun
  unfold Oper.wp
  simp [execOp, hop, hm, hx, hrun, Result.andThen]
  exact hK
theorem wpL_lookup (w : World) {ops : Array Oper} {rest : List Oper} {o : Oper} {a : Act} {Q : Exit → Act → World → Prop}
    (hg : o.guard = none) (m x : Operand) (t : TypeId) (ok : Bool) (hop : o.op = Op.lookup t m x ok) {k e : TypeId} (H : KeyOK P k enc) (ht : P.underlying t = some (.map k e)) {z : Value} (hz : (zeroValue e).run P w = .ok z w) (b : Nat) (key : κ) (r : Option Value)
    (h : MapK enc w b kvs) (hr : getK key kvs = r) (hm : a.eval m = .map (some b)) (hx : a.eval x = enc key)
    (hK : wpList P ops Q rest (a.put o.dst (lkR ok r z)) w) :
    wpList P ops Q (o :: rest) a w := by
  refine wpList_plain hg fun K' hK' => ?_
  exact wp_lookup w m x t ok hop H ht hz b key r h hr hm hx (hK' _ _ hK)
theorem step_lookup (w : World) {ops : Array Oper} {o : Oper} {a : Act} {Q : Exit → Act → World → Prop} {K' : Act → World → Prop} {E : Prop}
    (hg : o.guard = none) (m x : Operand) (t : TypeId) (ok : Bool) (hop : o.op = Op.lookup t m x ok) {k e : TypeId} (H : KeyOK P k enc) (ht : P.underlying t = some (.map k e)) {z : Value} (hz : (zeroValue e).run P w = .ok z w) (b : Nat) (key : κ) (r : Option Value)
    (h : MapK enc w b kvs) (hr : getK key kvs = r) (hm : a.eval m = .map (some b)) (hx : a.eval x = enc key)
    (hK : K' (a.put o.dst (lkR ok r z)) w) :
    if Region.wanted o (yielded ops a.tmps) = true then Oper.wp P o a w K' Q else E := by
  have hw : Region.wanted o (yielded ops a.tmps) = true := by simp [Region.wanted, hg]
  rw [if_pos hw]
  exact wp_lookup w m x t ok hop H ht hz b key r h hr hm hx hK
end
end Go.Proofs.Ytchhjldopecliaa
namespace Go.Proofs.Ytchhjldopecliaa
open Go.RowKit

/-- A module. -/
structure Md where
  nm : Str
  ov : Int
  pr : List Str
  sz : List Int
  cl : List (List Str)

def RMd : World → Md → List Value → Prop := fun w m cs => ∃ A1 n1 c1 A2 n2 c2 A3 n3 c3, cs = [.string m.nm, .int .i64 m.ov, .slice A1 n1 c1, .slice A2 n2 c2, .slice A3 n3 c3] ∧
  m.nm.size ≤ LIM ∧ SlR w 1 RStr A1 n1 c1 m.pr ∧ SlR w 1 RInt A2 n2 c2 m.sz ∧ SlR w 1 (RSl 1 RStr) A3 n3 c3 m.cl
theorem mono_md : Mono RMd := by
  rintro w w' m cs hb ⟨A1, n1, c1, A2, n2, c2, A3, n3, c3, e, h0, h1, h2, h3⟩
  exact ⟨A1, n1, c1, A2, n2, c2, A3, n3, c3, e, h0, h1.below mono_str hb, h2.below mono_int hb, h3.below (mono_sl mono_str) hb⟩

/-- A module's parts, as a module's cells tell them. -/
structure MdIs (w : World) (m : Md) (A1 : Option Addr) (n1 c1 : Nat) (A2 : Option Addr) (n2 c2 : Nat) (A3 : Option Addr) (n3 c3 : Nat) : Prop where
  nm : m.nm.size ≤ LIM
  pr : SlR w 1 RStr A1 n1 c1 m.pr
  sz : SlR w 1 RInt A2 n2 c2 m.sz
  cl : SlR w 1 (RSl 1 RStr) A3 n3 c3 m.cl
theorem MdIs.below {w w' : World} {m : Md} {A1 : Option Addr} {n1 c1 : Nat} {A2 : Option Addr} {n2 c2 : Nat} {A3 : Option Addr} {n3 c3 : Nat}
    (h : MdIs w m A1 n1 c1 A2 n2 c2 A3 n3 c3) (hb : Below w.heap.size w w') : MdIs w' m A1 n1 c1 A2 n2 c2 A3 n3 c3 :=
  ⟨h.nm, h.pr.below mono_str hb, h.sz.below mono_int hb, h.cl.below (mono_sl mono_str) hb⟩

theorem SlR.md_at {w : World} {A : Option Addr} {n c : Nat} {xs : List Md} (h : SlR w 5 RMd A n c xs) (k : Nat) (hk : k < n) :
    ∃ b off m A1 n1 c1 A2 n2 c2 A3 n3 c3, A = some ⟨b, off, none⟩ ∧ b < w.heap.size ∧ xs[k]? = some m ∧ MdIs w m A1 n1 c1 A2 n2 c2 A3 n3 c3 ∧
      w.cell? ⟨b, off + k * 5, none⟩ = some (.string m.nm) ∧ w.cell? ⟨b, off + k * 5 + 1, none⟩ = some (.int .i64 m.ov) ∧ w.cell? ⟨b, off + k * 5 + 2, none⟩ = some (.slice A1 n1 c1) ∧
      w.cell? ⟨b, off + k * 5 + 3, none⟩ = some (.slice A2 n2 c2) ∧ w.cell? ⟨b, off + k * 5 + 4, none⟩ = some (.slice A3 n3 c3) := by
  obtain ⟨b, off, x, cs, e, hlt, hx, hl, ⟨A1, n1, c1, A2, n2, c2, A3, n3, c3, rfl, h0, h1, h2, h3⟩, hc⟩ := h.at_ k hk
  exact ⟨b, off, x, A1, n1, c1, A2, n2, c2, A3, n3, c3, e, hlt, hx, ⟨h0, h1, h2, h3⟩, by simpa using hc 0 _ rfl, hc 1 _ rfl, hc 2 _ rfl, hc 3 _ rfl, hc 4 _ rfl⟩
end Go.Proofs.Ytchhjldopecliaa
namespace Go.Proofs.Ytchhjldopecliaa
open Go.RowKit

/-! ### append onto a row of the call's own, from whatever source -/
section
variable {P : Program}

/-- What is to be appended lies there. -/
def Src (w : World) (A : Option Addr) (m : Nat) (size : Nat) (news : List Value) : Prop :=
  news.length = m * size ∧ (0 < m → ∃ ad, A = some ad ∧ ∀ j u, news[j]? = some u → w.cell? (ad.add j) = some u) ∧ ∀ u ∈ news, u.oneCell' = true

theorem run_app (w : World) (base : Nat) (t ty e : TypeId) (z : Value) (size bytes : Nat) (ht : P.underlying t = some (.slice e)) (hinfo : (P.info? e).map (fun i => (i.zero, i.size, i.bytes)) = some (some z, size, bytes))
    (hzs : z.cells.size = size) (hsz : 0 < size) (hb0 : 0 < bytes)
    (v : Value) (n : Nat) (xs : List Value) (hown : w.ownsRow base e size v n xs) (A : Option Addr) (m c : Nat) (news : List Value) (hsrc : Src w A m size news)
    (hbytes : (n + m) * bytes ≤ 140737488355328) (hbase : base ≤ w.heap.size) :
    ∃ v' w', (Builtin.append_ #[t, t] ty #[v, .slice A m c]).run P w = .ok v' w' ∧ w'.ownsRow base e size v' (n + m) (xs ++ news) ∧ w.grownBy w' v.ownBlock ∧
      (v'.ownBlock = v.ownBlock ∨ v'.ownBlock = some w.heap.size) := by
  obtain ⟨i0, hi, hzz⟩ := Option.map_eq_some_iff.1 hinfo
  simp only [Prod.mk.injEq] at hzz
  obtain ⟨hz0, hz1, hz2⟩ := hzz
  obtain ⟨hl, hA, h1⟩ := hsrc
  have hlen : n + m ≤ 140737488355328 := Nat.le_trans (Nat.le_mul_of_pos_right _ hb0) hbytes
  rcases Nat.eq_zero_or_pos m with h0 | h0
  · subst h0
    obtain rfl : news = [] := List.eq_nil_of_length_eq_zero (by simpa using hl)
    refine ⟨v, w, ?_, by simpa using hown, World.grownBy.refl w _, .inl rfl⟩
    rcases hown.2 with ⟨rfl, hn⟩ | ⟨g, cap, cur, rfl, _, _, hnc, _⟩
    · subst hn
      cases A <;> simp [Builtin.append_, run_underlying ht, sizeOf, typeInfo, hi, Builtin.lenOf, Builtin.firstCells, loadCells, loadCellsFrom]
    · cases A <;> simp [Builtin.append_, run_underlying ht, sizeOf, typeInfo, hi, Builtin.lenOf, Builtin.firstCells, hnc, storeCells, loadCells, loadCellsFrom]
  · obtain ⟨ad, rfl, hc⟩ := hA h0
    obtain ⟨v', w', hr, h2, h3, _, h5⟩ := run_append_own_at (P := P) w base t ty e i0 z size bytes ht hi hz0 hz1 hz2 hzs hsz v n xs hown ad m c news hl hc h1 (by simp only [maxLen]; omega) hbytes hbase
    exact ⟨v', w', hr, h2, h3, h5⟩

variable {ops : Array Oper} {rest : List Oper} {o : Oper} {a : Act} {Q : Exit → Act → World → Prop} {K : Act → World → Prop} {E : Prop}

theorem wp_app (w : World) (base : Nat) (_hgd : o.guard = none) (s x : Operand) (t e : TypeId) (ho : o.op = .call { callee := .builtin .append, args := #[s, x], argTypes := #[t, t] }) (z : Value) (size bytes : Nat)
    (ht : P.underlying t = some (.slice e)) (hinfo : (P.info? e).map (fun i => (i.zero, i.size, i.bytes)) = some (some z, size, bytes)) (hzs : z.cells.size = size) (hsz : 0 < size) (hb0 : 0 < bytes)
    (v : Value) (n : Nat) (xs : List Value) (hs : a.eval s = v) (hown : w.ownsRow base e size v n xs) (A : Option Addr) (m c : Nat) (news : List Value) (hx : a.eval x = .slice A m c) (hsrc : Src w A m size news)
    (hbytes : (n + m) * bytes ≤ 140737488355328) (hbase : base ≤ w.heap.size)
    (h : ∀ v' w', w'.ownsRow base e size v' (n + m) (xs ++ news) → w.grownBy w' v.ownBlock → (v'.ownBlock = v.ownBlock ∨ v'.ownBlock = some w.heap.size) → K (a.put o.dst v') w') :
    o.wp P a w K Q := by
  obtain ⟨v', w', hr, h2, h3, h5⟩ := run_app (P := P) w base t o.type e z size bytes ht hinfo hzs hsz hb0 v n xs hown A m c news hsrc hbytes hbase
  unfold Oper.wp execOp
  simp only [ho, resolve, invoke, builtin, Sem.run_bind, Sem.run_pure, Result.andThen_ok, List.map_toArray, List.map_cons, List.map_nil, hs, hx, hr]
  exact h v' w' h2 h3 h5

theorem wpL_app (w : World) (base : Nat) (hgd : o.guard = none) (s x : Operand) (t e : TypeId) (ho : o.op = .call { callee := .builtin .append, args := #[s, x], argTypes := #[t, t] }) (z : Value) (size bytes : Nat)
    (ht : P.underlying t = some (.slice e)) (hinfo : (P.info? e).map (fun i => (i.zero, i.size, i.bytes)) = some (some z, size, bytes)) (hzs : z.cells.size = size) (hsz : 0 < size) (hb0 : 0 < bytes)
    (v : Value) (n : Nat) (xs : List Value) (hs : a.eval s = v) (hown : w.ownsRow base e size v n xs) (A : Option Addr) (m c : Nat) (news : List Value) (hx : a.eval x = .slice A m c) (hsrc : Src w A m size news)
    (hbytes : (n + m) * bytes ≤ 140737488355328) (hbase : base ≤ w.heap.size)
    (h : ∀ v' w', w'.ownsRow base e size v' (n + m) (xs ++ news) → w.grownBy w' v.ownBlock → (v'.ownBlock = v.ownBlock ∨ v'.ownBlock = some w.heap.size) → wpList P ops Q rest (a.put o.dst v') w') :
    wpList P ops Q (o :: rest) a w :=
  wpList_plain hgd fun _ hK => wp_app w base hgd s x t e ho z size bytes ht hinfo hzs hsz hb0 v n xs hs hown A m c news hx hsrc hbytes hbase (fun v' w' h1 h2 h3 => hK _ _ (h v' w' h1 h2 h3))

theorem step_app (w : World) (base : Nat) (hgd : o.guard = none) (s x : Operand) (t e : TypeId) (ho : o.op = .call { callee := .builtin .append, args := #[s, x], argTypes := #[t, t] }) (z : Value) (size bytes : Nat)
    (ht : P.underlying t = some (.slice e)) (hinfo : (P.info? e).map (fun i => (i.zero, i.size, i.bytes)) = some (some z, size, bytes)) (hzs : z.cells.size = size) (hsz : 0 < size) (hb0 : 0 < bytes)
    (v : Value) (n : Nat) (xs : List Value) (hs : a.eval s = v) (hown : w.ownsRow base e size v n xs) (A : Option Addr) (m c : Nat) (news : List Value) (hx : a.eval x = .slice A m c) (hsrc : Src w A m size news)
    (hbytes : (n + m) * bytes ≤ 140737488355328) (hbase : base ≤ w.heap.size)
    (h : ∀ v' w', w'.ownsRow base e size v' (n + m) (xs ++ news) → w.grownBy w' v.ownBlock → (v'.ownBlock = v.ownBlock ∨ v'.ownBlock = some w.heap.size) → K (a.put o.dst v') w') :
    if Region.wanted o (yielded ops a.tmps) = true then Oper.wp P o a w K Q else E := by
  have hw : Region.wanted o (yielded ops a.tmps) = true := by simp [Region.wanted, hgd]
  rw [if_pos hw]
  exact wp_app w base hgd s x t e ho z size bytes ht hinfo hzs hsz hb0 v n xs hs hown A m c news hx hsrc hbytes hbase h
end

/-- One new element, in the block that was just laid. -/
theorem src_new (w : World) (cs : List Value) (t : TypeId) (h1 : ∀ u ∈ cs, u.oneCell' = true) : Src (w.alloc (.cells cs.toArray t)) (some ⟨w.heap.size, 0, none⟩) 1 cs.length cs :=
  ⟨by simp, fun _ => ⟨_, rfl, World.news_of_block (cs := cs.toArray) (t := t) (fr := (0, 0)) (heap_alloc_new w _)⟩, h1⟩
theorem src_one (w : World) (x : Value) (t : TypeId) (h1 : x.oneCell' = true) : Src (w.alloc (.cells #[x] t)) (some ⟨w.heap.size, 0, none⟩) 1 1 [x] :=
  src_new w [x] t (by simpa using h1)
theorem src_at (w : World) (x : Value) (t : TypeId) (p : Nat) (hp : p = w.heap.size) (h1 : x.oneCell' = true) : Src (w.alloc (.cells #[x] t)) (some ⟨p, 0, none⟩) 1 1 [x] := by
  subst hp
  exact src_one w x t h1
theorem src_strs {w : World} {A : Option Addr} {n c : Nat} {xs : List Str} (h : SlR w 1 RStr A n c xs) : Src w A n 1 (xs.map Value.string) := by
  refine ⟨by simp [h.len], fun hn => ?_, by simp; intro _ _; rfl⟩
  obtain ⟨b, off, x, e, _⟩ := h.str_at 0 hn
  refine ⟨_, e, fun j u hu => ?_⟩
  have hj : j < n := by
    have := (List.getElem?_eq_some_iff.1 hu).1
    rw [List.length_map, h.len] at this
    exact this
  obtain ⟨b', off', x', e', _, hx, _, hc⟩ := h.str_at j hj
  rw [e] at e'
  injection e' with e'
  injection e' with e1 e2
  subst e1 e2
  rw [List.getElem?_map, hx] at hu
  injection hu with hu
  subst hu
  have ha : (⟨b, off, none⟩ : Addr).add j = ⟨b, off + j, none⟩ := by unfold Addr.add; split <;> simp_all
  rw [ha]
  exact hc

/-- A row of one's own that holds texts, read. -/
theorem own_strs {w : World} {base : Nat} {e : TypeId} {v : Value} {xs : List Str} (h : w.ownsRow base e 1 v xs.length (xs.map Value.string)) (hs : ∀ x ∈ xs, x.size ≤ LIM) (hl : xs.length ≤ LIM) :
    ∃ A c, v = .slice A xs.length c ∧ SlR w 1 RStr A xs.length c xs := by
  rcases h.2 with ⟨rfl, h0⟩ | ⟨g, cap, cur, rfl, hb, hg, hnc, hcm, hcs, ht⟩
  · refine ⟨none, 0, by rw [h0], rfl, by omega, hl, fun hn => by omega⟩
  · refine ⟨_, cap, rfl, rfl, hnc, hl, fun _ => ⟨g, 0, rfl, (Array.getElem?_eq_some_iff.1 hg).1, fun i x hx => ⟨[.string x], rfl, ⟨rfl, hs x (List.mem_iff_getElem?.2 ⟨i, hx⟩)⟩, fun j u hu => ?_⟩⟩⟩
    match j, hu with
    | 0, hu =>
      have hu : Value.string x = u := by simpa using hu
      subst hu
      have hi : i < xs.length := (List.getElem?_eq_some_iff.1 hx).1
      have := h.cells (g := g) rfl i (.string x) (by rw [List.getElem?_map, hx]; rfl)
      have ha : (⟨g, 0, none⟩ : Addr).add i = ⟨g, 0 + i * 1 + 0, none⟩ := by unfold Addr.add; split <;> simp_all
      rwa [ha] at this
    | j + 1, hu => simp at hu
theorem own_ints {w : World} {base : Nat} {e : TypeId} {v : Value} {xs : List Int} (h : w.ownsRow base e 1 v xs.length (xs.map (Value.int .i64))) (hl : xs.length ≤ LIM) :
    ∃ A c, v = .slice A xs.length c ∧ SlR w 1 RInt A xs.length c xs := by
  rcases h.2 with ⟨rfl, h0⟩ | ⟨g, cap, cur, rfl, hb, hg, hnc, hcm, hcs, ht⟩
  · refine ⟨none, 0, by rw [h0], rfl, by omega, hl, fun hn => by omega⟩
  · refine ⟨_, cap, rfl, rfl, hnc, hl, fun _ => ⟨g, 0, rfl, (Array.getElem?_eq_some_iff.1 hg).1, fun i x hx => ⟨[.int .i64 x], rfl, rfl, fun j u hu => ?_⟩⟩⟩
    match j, hu with
    | 0, hu =>
      have hu : Value.int .i64 x = u := by simpa using hu
      subst hu
      have hi : i < xs.length := (List.getElem?_eq_some_iff.1 hx).1
      have := h.cells (g := g) rfl i (.int .i64 x) (by rw [List.getElem?_map, hx]; rfl)
      have ha : (⟨g, 0, none⟩ : Addr).add i = ⟨g, 0 + i * 1 + 0, none⟩ := by unfold Addr.add; split <;> simp_all
      rwa [ha] at this
    | j + 1, hu => simp at hu
theorem own_below {w w1 : World} {base : Nat} {e : TypeId} {size n : Nat} {v : Value} {xs : List Value} (h : w.ownsRow base e size v n xs) (hb : Below w.heap.size w w1) : w1.ownsRow base e size v n xs :=
  h.kept (below_gb hb none) (by cases v.ownBlock <;> simp)
theorem own_other {w w1 : World} {base : Nat} {e : TypeId} {size n : Nat} {v : Value} {xs : List Value} (h : w.ownsRow base e size v n xs) {row : Option Nat} (hg : w.grownBy w1 row) (hne : v.ownBlock = none ∨ v.ownBlock ≠ row) : w1.ownsRow base e size v n xs :=
  h.kept hg hne
theorem gcell {w wa : World} {v : Value} {p i : Nat} {u : Value} (hg : w.grownBy wa v.ownBlock) (hne : ∀ B, v.ownBlock = some B → B < p) (h : w.cell? ⟨p, i, none⟩ = some u) : wa.cell? ⟨p, i, none⟩ = some u :=
  hg.cell h (fun e => by have := hne p e.symm; omega)
theorem grown_al {W wa : World} {row : Option Nat} {o : Obj} (w : World) (hg : W.grownBy wa row) (hW : W.heap = (w.alloc o).heap) (h1 : W.os = w.os) (h2 : W.tape = w.tape) (h3 : W.output = w.output) : w.grownBy wa row := by
  have hs : W.heap.size = w.heap.size + 1 := by rw [hW]; simp
  refine ⟨hg.os.trans h1, hg.tape.trans h2, hg.output.trans h3, by have := hg.size; omega, fun i hi hne => ?_⟩
  rw [hg.block i (by omega) hne, hW]
  exact Below.heap_alloc _ _ _ hi
theorem grown_dr {W wa : World} {row : Option Nat} (w : World) (hg : W.grownBy wa row) (hW : W.heap = w.heap) (h1 : W.os = w.os) (h2 : W.tape = w.tape) (h3 : W.output = w.output) : w.grownBy wa row :=
  ⟨hg.os.trans h1, hg.tape.trans h2, hg.output.trans h3, by have := hg.size; rw [hW] at this; exact this, fun i hi hne => by rw [hg.block i (by rw [hW]; exact hi) hne, hW]⟩
/-- What was made by growth at a row of one's own is below. -/
theorem below_grown {B : Nat} {w0 w w1 : World} {base : Nat} {e : TypeId} {size n : Nat} {v : Value} {xs : List Value} (h : Below B w0 w) (hB : B ≤ base) (hbs : B ≤ w.heap.size) (ho : w.ownsRow base e size v n xs) (hg : w.grownBy w1 v.ownBlock) : Below B w0 w1 :=
  h.grown hg hbs (fun k hk => Nat.le_trans hB (ho.lt k hk).1)
end Go.Proofs.Ytchhjldopecliaa
namespace Go.Proofs.Ytchhjldopecliaa
open Go.RowKit

/-! ### what came in, as the walks speak of it -/
section
variable {H : Type} {enc : TypeId × Value → H} {P : Program} {w : World} {spare : Nat → Bool} {held : Bool}

/-- No list and no text of a datum is longer than any machine holds. -/
def Okw (P : Program) (t : TypeId) (d : DataW H) : Prop := ∀ n ∈ d.weights P t, n ≤ LIM

theorem lim_reach : reachBytes = LIM := by decide

theorem op_str {fuel : Nat} {t : TypeId} {cs : List Value} {d : DataW H} {ps : List MemPlace} (ht : P.underlying t = some .string) (h : DataW.trod enc P w 0 spare held fuel t cs = some (d, ps)) (hw : Okw P t d) : ∃ s, RStr w s cs := by
  obtain ⟨s, rfl, hx, _⟩ := DataW.trod_string ht h
  injection hx with hx
  subst hx
  have := hw s.data.toList.length (by simp [DataW.weights])
  exact ⟨s, rfl, by simpa using this⟩
theorem op_int {fuel : Nat} {t : TypeId} {cs : List Value} {d : DataW H} {ps : List MemPlace} (ht : P.underlying t = some (.int .i64)) (h : DataW.trod enc P w 0 spare held fuel t cs = some (d, ps)) : ∃ x, RInt w x cs := by
  obtain ⟨n, rfl, _, _⟩ := DataW.trod_int ht h
  exact ⟨n, rfl⟩

theorem list_of {α : Type} {p : Nat → α → Prop} : ∀ {n : Nat}, (∀ i, i < n → ∃ x, p i x) → ∃ xs : List α, xs.length = n ∧ ∀ (i : Nat) (x : α), xs[i]? = some x → p i x
  | 0, _ => ⟨[], rfl, by simp⟩
  | n + 1, h => by
    obtain ⟨xs, hl, hx⟩ := list_of (n := n) (fun i hi => h i (by omega))
    obtain ⟨x, hp⟩ := h n (by omega)
    refine ⟨xs ++ [x], by simp [hl], fun i y hy => ?_⟩
    by_cases hi : i < xs.length
    · rw [List.getElem?_append_left hi] at hy
      exact hx i y hy
    · rw [List.getElem?_append_right (by omega)] at hy
      cases hk : i - xs.length with
      | zero =>
        rw [hk] at hy
        obtain rfl : x = y := by simpa using hy
        have : i = n := by omega
        subst this
        exact hp
      | succ q => rw [hk] at hy; simp at hy

theorem weightsAll_mem {e : TypeId} : ∀ {l : List (DataW H)} {d : DataW H}, d ∈ l → ∀ n ∈ d.weights P e, n ∈ DataW.weightsAll P e l
  | [], _, h, _, _ => by cases h
  | x :: r, d, h, n, hn => by
    simp only [DataW.weightsAll, List.mem_append]
    rcases List.mem_cons.1 h with rfl | h
    · exact .inl hn
    · exact .inr (weightsAll_mem h n hn)
theorem addr_add {b o : Nat} {n : Nat} : (⟨b, o, none⟩ : Addr).add n = ⟨b, o + n, none⟩ := by unfold Addr.add; split <;> simp_all

/-- A slice, whose elements are told. -/
theorem op_sl {α : Type} {R : World → α → List Value → Prop} {sz : Nat} {fuel : Nat} {t e : TypeId} {cs : List Value} {d : DataW H} {ps : List MemPlace}
    (ht : P.underlying t = some (.slice e)) (hc : P.cellsOf e = sz) (hsz : 0 < sz) (hby : 1 ≤ P.bytesOf e)
    (helem : ∀ fuel cs d ps, cs.length = sz → DataW.trod enc P w 0 spare held fuel e cs = some (d, ps) → Okw P e d → ∃ x, R w x cs)
    (h : DataW.trod enc P w 0 spare held fuel t cs = some (d, ps)) (hw : Okw P t d) : ∃ xs, RSl sz R w xs cs := by
  rcases DataW.trod_slice ht h with ⟨rfl, hx⟩ | ⟨a, len, cap, elems, rest, n, _, rfl, hx, _, hl, _, hlen, hel, _, _⟩
  · exact ⟨[], none, 0, 0, rfl, rfl, Nat.le_refl _, Nat.zero_le _, fun h => absurd h (Nat.lt_irrefl 0)⟩
  · injection hx with hx _
    subst hx
    have hwl : (elems.length + rest.length) * P.bytesOf e ≤ LIM := by
      have := hw ((elems.length + rest.length) * P.bytesOf e) (by simp [DataW.weights, ht])
      exact this
    have hlim : len ≤ LIM := by
      rw [← hlen]
      have h1 : elems.length + rest.length ≤ (elems.length + rest.length) * P.bytesOf e := Nat.le_mul_of_pos_right _ hby
      omega
    have hE : ∀ i, i < len → ∃ x, ∃ cs', w.cells? 0 (a.add (i * P.cellsOf e)) (P.cellsOf e) = some cs' ∧ R w x cs' := by
      intro i hi
      have key := hel i hi
      rw [List.getElem?_eq_getElem (by omega)] at key
      obtain ⟨cs', h1, h2⟩ := Option.bind_eq_some_iff.1 key
      have hlc := (World.cells?_some h1).2.1
      have hwe : Okw P e (elems[i]'(by omega)).1 := by
        intro q hq
        refine hw q ?_
        simp only [DataW.weights, ht, List.mem_cons, List.mem_append]
        exact .inr (.inl (weightsAll_mem (List.mem_map_of_mem (List.getElem_mem (by omega))) q hq))
      obtain ⟨x, hx⟩ := helem n cs' (elems[i]'(by omega)).1 (elems[i]'(by omega)).2 (by rw [hlc, hc]) h2 hwe
      exact ⟨x, cs', h1, hx⟩
    obtain ⟨xs, hxl, hxs⟩ := list_of hE
    refine ⟨xs, some a, len, cap, rfl, hxl, hl, hlim, fun hn => ?_⟩
    have h0 : ∃ v, w.cell? a = some v := by
      obtain ⟨cs', h1, _⟩ := (hxs 0 (xs[0]'(by omega)) (List.getElem?_eq_getElem (by omega)))
      obtain ⟨_, h2, h3⟩ := World.cells?_some h1
      have := h3 0 (by rw [hc]; exact hsz)
      rw [Nat.zero_mul] at this
      have e : (a.add 0).add 0 = a := by simp [Addr.add]
      rw [e, List.getElem?_eq_getElem (by rw [h2, hc]; exact hsz)] at this
      exact ⟨_, this⟩
    obtain ⟨v, hv⟩ := h0
    obtain ⟨b, off, sp⟩ := a
    obtain rfl : sp = none := by
      cases sp with
      | none => rfl
      | some x =>
        unfold World.cell? at hv
        split at hv <;> simp at hv
    refine ⟨b, off, rfl, World.block_lt_of_cell? w _ hv, fun i x hx => ?_⟩
    obtain ⟨cs', h1, h2⟩ := hxs i x hx
    obtain ⟨_, h3, h4⟩ := World.cells?_some h1
    refine ⟨cs', by rw [h3, hc], h2, fun j u hu => ?_⟩
    have hj : j < P.cellsOf e := by rw [← h3]; exact (List.getElem?_eq_some_iff.1 hu).1
    have := h4 j hj
    rw [hu, addr_add, addr_add, hc] at this
    exact this
end
end Go.Proofs.Ytchhjldopecliaa
namespace Go.Proofs.Ytchhjldopecliaa
open Go.RowKit

section
variable {H : Type} {enc : TypeId × Value → H} {w : World} {spare : Nat → Bool} {held : Bool}

theorem cells9 : Try.prog.cellsOf 9 = 1 := by kernel_rfl
theorem cells3 : Try.prog.cellsOf 3 = 1 := by kernel_rfl
theorem cells23 : Try.prog.cellsOf 23 = 1 := by kernel_rfl
theorem cells30 : Try.prog.cellsOf 30 = 1 := by kernel_rfl
theorem cells31 : Try.prog.cellsOf 31 = 1 := by kernel_rfl
theorem cells33 : Try.prog.cellsOf 33 = 5 := by kernel_rfl
theorem bytes9 : Try.prog.bytesOf 9 = 16 := by kernel_rfl
theorem bytes3 : Try.prog.bytesOf 3 = 8 := by kernel_rfl
theorem bytes23 : Try.prog.bytesOf 23 = 24 := by kernel_rfl
theorem bytes33 : Try.prog.bytesOf 33 = 96 := by kernel_rfl

theorem op_strs {fuel : Nat} {cs : List Value} {d : DataW H} {ps : List MemPlace} (h : DataW.trod enc Try.prog w 0 spare held fuel 23 cs = some (d, ps)) (hw : Okw Try.prog 23 d) : ∃ xs, RSl 1 RStr w xs cs :=
  op_sl Try.underlying23 cells9 (by decide) (by rw [bytes9]; decide) (fun _ _ _ _ _ h hw => op_str Try.underlying9 h hw) h hw
theorem op_ints {fuel : Nat} {cs : List Value} {d : DataW H} {ps : List MemPlace} (h : DataW.trod enc Try.prog w 0 spare held fuel 30 cs = some (d, ps)) (hw : Okw Try.prog 30 d) : ∃ xs, RSl 1 RInt w xs cs :=
  op_sl Try.underlying30 cells3 (by decide) (by rw [bytes3]; decide) (fun _ _ _ _ _ h _ => op_int Try.underlying3 h) h hw
theorem op_strss {fuel : Nat} {cs : List Value} {d : DataW H} {ps : List MemPlace} (h : DataW.trod enc Try.prog w 0 spare held fuel 31 cs = some (d, ps)) (hw : Okw Try.prog 31 d) : ∃ xs, RSl 1 (RSl 1 RStr) w xs cs :=
  op_sl Try.underlying31 cells23 (by decide) (by rw [bytes23]; decide) (fun _ _ _ _ _ h hw => op_strs h hw) h hw

set_option maxRecDepth 100000 in
theorem op_md {fuel : Nat} {cs : List Value} {d : DataW H} {ps : List MemPlace} (hl : cs.length = 5) (h : DataW.trod enc Try.prog w 0 spare held fuel 33 cs = some (d, ps)) (hw : Okw Try.prog 33 d) : ∃ m, RMd w m cs := by
  obtain ⟨xs, n, _, hx, _, hxl, hf⟩ := DataW.trod_struct Try.underlying33 h
  injection hx with hx _
  subst hx
  match cs, hl with
  | [c0, c1, c2, c3, c4], _ =>
    have hxl5 : xs.length = 5 := hxl
    match xs, hxl5 with
    | [x0, x1, x2, x3, x4], _ =>
      have g0 : DataW.trod enc Try.prog w 0 spare held n 9 (([c0, c1, c2, c3, c4].drop 0).take (Try.prog.cellsOf 9)) = some x0 := hf 0 _ rfl
      have g1 : DataW.trod enc Try.prog w 0 spare held n 3 (([c0, c1, c2, c3, c4].drop 1).take (Try.prog.cellsOf 3)) = some x1 := hf 1 _ rfl
      have g2 : DataW.trod enc Try.prog w 0 spare held n 23 (([c0, c1, c2, c3, c4].drop 2).take (Try.prog.cellsOf 23)) = some x2 := hf 2 _ rfl
      have g3 : DataW.trod enc Try.prog w 0 spare held n 30 (([c0, c1, c2, c3, c4].drop 3).take (Try.prog.cellsOf 30)) = some x3 := hf 3 _ rfl
      have g4 : DataW.trod enc Try.prog w 0 spare held n 31 (([c0, c1, c2, c3, c4].drop 4).take (Try.prog.cellsOf 31)) = some x4 := hf 4 _ rfl
      simp only [cells9, cells3, cells23, cells30, cells31, List.drop_zero, List.drop_succ_cons, List.take_succ_cons, List.take_zero] at g0 g1 g2 g3 g4
      have hwf : ∀ (j : Nat) (t : TypeId) (y : DataW H × List MemPlace), ([9, 3, 23, 30, 31] : List TypeId)[j]? = some t → [x0, x1, x2, x3, x4][j]? = some y → Okw Try.prog t y.1 := by
        intro j t y ht hy q hq
        refine hw q ?_
        simp only [DataW.weights, Try.underlying33]
        refine DataW.weights_mem_each (j := j) (t := t) (d := y.1) ht ?_ q hq
        rw [List.getElem?_map, hy]
        rfl
      obtain ⟨s, hs⟩ := op_str (d := x0.1) (ps := x0.2) Try.underlying9 g0 (hwf 0 9 x0 rfl rfl)
      obtain ⟨o, ho⟩ := op_int (d := x1.1) (ps := x1.2) Try.underlying3 g1
      obtain ⟨l2, A2, n2, k2, e2, s2⟩ := op_strs (d := x2.1) (ps := x2.2) g2 (hwf 2 23 x2 rfl rfl)
      obtain ⟨l3, A3, n3, k3, e3, s3⟩ := op_ints (d := x3.1) (ps := x3.2) g3 (hwf 3 30 x3 rfl rfl)
      obtain ⟨l4, A4, n4, k4, e4, s4⟩ := op_strss (d := x4.1) (ps := x4.2) g4 (hwf 4 31 x4 rfl rfl)
      obtain ⟨e0, h0⟩ := hs
      have ho : [c1] = [Value.int .i64 o] := ho
      simp only [List.cons.injEq, and_true] at e0 ho e2 e3 e4
      subst e0 ho e2 e3 e4
      exact ⟨⟨s, o, l2, l3, l4⟩, _, _, _, _, _, _, _, _, _, rfl, h0, s2, s3, s4⟩
theorem op_mds {fuel : Nat} {cs : List Value} {d : DataW H} {ps : List MemPlace} (h : DataW.trod enc Try.prog w 0 spare held fuel 22 cs = some (d, ps)) (hw : Okw Try.prog 22 d) : ∃ ms, RSl 5 RMd w ms cs :=
  op_sl Try.underlying22 cells33 (by decide) (by rw [bytes33]; decide) (fun _ _ _ _ hl h hw => op_md hl h hw) h hw

theorem okw_arg {ts : List TypeId} {ds : List (DataW H)} (h : (DataW.weightsEach Try.prog ts ds).all (· ≤ reachBytes) = true) {j : Nat} {t : TypeId} {d : DataW H} (ht : ts[j]? = some t) (hd : ds[j]? = some d) : Okw Try.prog t d := by
  intro n hn
  have := List.all_eq_true.1 h _ (DataW.weights_mem_each ht hd n hn)
  rw [← lim_reach]
  simpa using this

/-- A parameter of modules. -/
theorem arg_mds {a : Option Addr} {n c : Nat} {d : DataW H} {ps : List MemPlace} (h : DataW.Trod enc Try.prog w 0 spare held 22 (.slice a n c) d ps) (hw : Okw Try.prog 22 d) : ∃ ms, SlR w 5 RMd a n c ms := by
  obtain ⟨fuel, hf⟩ := h
  obtain ⟨ms, A', n', c', e, hs⟩ := op_mds hf hw
  have e : [Value.slice a n c] = [Value.slice A' n' c'] := e
  simp only [List.cons.injEq, Value.slice.injEq, and_true] at e
  obtain ⟨rfl, rfl, rfl⟩ := e
  exact ⟨ms, hs⟩
theorem arg_strs {a : Option Addr} {n c : Nat} {d : DataW H} {ps : List MemPlace} (h : DataW.Trod enc Try.prog w 0 spare held 23 (.slice a n c) d ps) (hw : Okw Try.prog 23 d) : ∃ xs, SlR w 1 RStr a n c xs := by
  obtain ⟨fuel, hf⟩ := h
  obtain ⟨ms, A', n', c', e, hs⟩ := op_strs hf hw
  have e : [Value.slice a n c] = [Value.slice A' n' c'] := e
  simp only [List.cons.injEq, Value.slice.injEq, and_true] at e
  obtain ⟨rfl, rfl, rfl⟩ := e
  exact ⟨ms, hs⟩
end
end Go.Proofs.Ytchhjldopecliaa
namespace Go.Proofs.Ytchhjldopecliaa
open Go.RowKit

/-- A queue of one's own. -/
def Que (w : World) (base : Nat) (e : TypeId) (v : Value) (xs : List Value) : Prop :=
  (xs = [] ∧ ∃ A, v = .slice A 0 0 ∧ ∀ a, A = some a → base ≤ a.block ∧ a.block < w.heap.size) ∨
  ∃ g off cap cur, v = .slice (some ⟨g, off, none⟩) xs.length cap ∧ base ≤ g ∧ w.heap[g]? = some (.cells cur e (0, 0)) ∧ xs.length ≤ cap ∧ off + cap ≤ maxLen ∧ cur.size = off + cap ∧ (cur.toList.drop off).take xs.length = xs
section
variable {w w1 : World} {base : Nat} {e : TypeId} {v : Value} {xs : List Value}
theorem Que.of_own (h : w.ownsRow base e 1 v xs.length xs) : Que w base e v xs := by
  rcases h.2 with ⟨rfl, h0⟩ | ⟨g, cap, cur, rfl, hb, hg, hnc, hcm, hcs, ht⟩
  · exact .inl ⟨List.eq_nil_of_length_eq_zero h0, none, rfl, fun a ha => by cases ha⟩
  · exact .inr ⟨g, 0, cap, cur, rfl, hb, hg, hnc, by omega, by omega, by simpa using ht⟩
theorem Que.lt (h : Que w base e v xs) : ∀ B, v.ownBlock = some B → base ≤ B ∧ B < w.heap.size := by
  intro B hB
  rcases h with ⟨_, A, rfl, hA⟩ | ⟨g, off, cap, cur, rfl, hb, hg, _⟩
  · cases A with
    | none => simp [Value.ownBlock] at hB
    | some a =>
      have : a.block = B := by simpa [Value.ownBlock] using hB
      subst this
      exact hA a rfl
  · have : g = B := by simpa [Value.ownBlock] using hB
    subst this
    exact ⟨hb, (Array.getElem?_eq_some_iff.1 hg).1⟩
theorem Que.kept {row : Option Nat} (h : Que w base e v xs) (hg : w.grownBy w1 row) (hne : v.ownBlock = none ∨ v.ownBlock ≠ row) : Que w1 base e v xs := by
  rcases h with ⟨h0, A, rfl, hA⟩ | ⟨g, off, cap, cur, rfl, hb, hgg, r⟩
  · exact .inl ⟨h0, A, rfl, fun a ha => ⟨(hA a ha).1, Nat.lt_of_lt_of_le (hA a ha).2 hg.size⟩⟩
  · refine .inr ⟨g, off, cap, cur, rfl, hb, ?_, r⟩
    rw [hg.block g (Array.getElem?_eq_some_iff.1 hgg).1 (by simpa [Value.ownBlock] using hne)]
    exact hgg
theorem Que.below (h : Que w base e v xs) (hb : Below w.heap.size w w1) : Que w1 base e v xs :=
  h.kept (below_gb hb none) (by cases v.ownBlock <;> simp)
theorem Que.alloc (h : Que w base e v xs) (o : Obj) : Que (w.alloc o) base e v xs := h.below (bel_alloc w o)
theorem Que.nil (h : Que w base e v []) : ∃ A c, v = .slice A 0 c := by
  rcases h with ⟨_, A, rfl, _⟩ | ⟨g, off, cap, cur, rfl, _⟩
  · exact ⟨A, 0, rfl⟩
  · exact ⟨_, cap, rfl⟩
/-- The head, and what is behind it. -/
theorem Que.cons {x : Value} {r : List Value} (h : Que w base e v (x :: r)) : ∃ g off cap, v = .slice (some ⟨g, off, none⟩) (r.length + 1) (cap + 1) ∧ r.length ≤ cap ∧ w.cell? ⟨g, off, none⟩ = some x ∧
    Que w base e (.slice (if cap + 1 = 1 then some ⟨g, off, none⟩ else some ⟨g, off + 1, none⟩) r.length cap) r := by
  rcases h with ⟨h0, _⟩ | ⟨g, off, cap, cur, rfl, hb, hg, hnc, hcm, hcs, ht⟩
  · cases h0
  · simp only [List.length_cons] at hnc ht
    obtain ⟨c, rfl⟩ : ∃ c, cap = c + 1 := ⟨cap - 1, by omega⟩
    have hx : cur.toList[off]? = some x := by
      have := congrArg (·[0]?) ht
      simpa using this
    refine ⟨g, off, c, rfl, by omega, ?_, ?_⟩
    · simp only [World.cell?, hg]
      rw [Array.getElem?_toList] at hx
      simpa using hx
    · by_cases hc : c = 0
      · subst hc
        obtain rfl : r = [] := List.eq_nil_of_length_eq_zero (by omega)
        rw [if_pos rfl]
        exact .inl ⟨rfl, _, rfl, fun a ha => by injection ha with ha; subst ha; exact ⟨hb, (Array.getElem?_eq_some_iff.1 hg).1⟩⟩
      · rw [if_neg (by omega)]
        refine .inr ⟨g, off + 1, c, cur, rfl, hb, hg, by omega, by omega, by omega, ?_⟩
        have h2 := congrArg List.tail ht
        simpa [← List.drop_one, List.drop_take, List.drop_drop] using h2
end
theorem addr_addq (g o j : Nat) : (⟨g, o, none⟩ : Addr).add j = ⟨g, o + j, none⟩ := by unfold Addr.add; split <;> simp_all
section
variable {P : Program}
/-- One more behind it. -/
theorem run_app_q (w : World) (base : Nat) (t ty e : TypeId) (z : Value) (bytes : Nat) (ht : P.underlying t = some (.slice e)) (hinfo : (P.info? e).map (fun i => (i.zero, i.size, i.bytes)) = some (some z, 1, bytes))
    (hzs : z.cells.size = 1) (hb0 : 0 < bytes) (v : Value) (xs : List Value) (hown : Que w base e v xs) (a : Addr) (c : Nat) (x : Value) (hx : w.cell? a = some x) (h1 : x.oneCell' = true)
    (hbytes : (xs.length + 1) * bytes ≤ 140737488355328) (hbase : base ≤ w.heap.size) :
    ∃ v' w', (Builtin.append_ #[t, t] ty #[v, .slice (some a) 1 c]).run P w = .ok v' w' ∧ Que w' base e v' (xs ++ [x]) ∧ w.grownBy w' v.ownBlock ∧ (v'.ownBlock = v.ownBlock ∨ ∃ b, v'.ownBlock = some b ∧ w.heap.size ≤ b) := by
  obtain ⟨i, hi, hzz⟩ := Option.map_eq_some_iff.1 hinfo
  simp only [Prod.mk.injEq] at hzz
  obtain ⟨hz, hsz, hby⟩ := hzz
  have hlen : xs.length + 1 ≤ 140737488355328 := Nat.le_trans (Nat.le_mul_of_pos_right _ hb0) hbytes
  have hnews : ∀ j u, [x][j]? = some u → w.cell? (a.add j) = some u := by
    intro j u hu
    cases j with
    | zero =>
      have : x = u := by simpa using hu
      subst this
      have e0 : a.add 0 = a := by simp [Addr.add]
      rw [e0]
      exact hx
    | succ j => simp at hu
  have grows : ∀ (b : Addr) (cap : Nat), cap < xs.length + 1 → (∀ j u, xs[j]? = some u → w.cell? (b.add j) = some u) → v = .slice (some b) xs.length cap →
      ∃ v' w', (Builtin.append_ #[t, t] ty #[v, .slice (some a) 1 c]).run P w = .ok v' w' ∧ Que w' base e v' (xs ++ [x]) ∧ w.grownBy w' v.ownBlock ∧ (v'.ownBlock = v.ownBlock ∨ ∃ b, v'.ownBlock = some b ∧ w.heap.size ≤ b) := by
    intro b cap hcap hcells hv
    obtain ⟨v', w', hr, ho, hg⟩ := run_append_arg_grows (P := P) (w := w) t ty e i z 1 bytes ht hi hz hsz hby hzs (by decide) b xs.length cap xs (by simp) hcells a 1 c [x] (by simp) hnews hcap (by simp only [maxLen]; omega) hbytes
    have ho' : w'.ownsRow w.heap.size e 1 v' (xs ++ [x]).length (xs ++ [x]) := by simpa using ho
    have hq := Que.of_own ho'
    refine ⟨v', w', by rw [hv]; exact hr, ?_, ⟨hg.os, hg.tape, hg.output, hg.size, fun k hk _ => hg.block k hk (by simp)⟩, ?_⟩
    · rcases hq with ⟨h0, _⟩ | ⟨g, off, cap', cur, e1, hb, r⟩
      · simp at h0
      · exact .inr ⟨g, off, cap', cur, e1, Nat.le_trans hbase hb, r⟩
    · rcases hq with ⟨h0, _⟩ | ⟨g, off, cap', cur, e1, hb, r⟩
      · simp at h0
      · exact .inr ⟨g, by rw [e1]; simp [Value.ownBlock], hb⟩
  rcases hown with ⟨h0, A, hv, hA⟩ | ⟨g, off, cap, cur, hv, hbg, hg, hnc, hcm, hcs, htake⟩
  · subst h0
    cases A with
    | none =>
      have ho : w.ownsRow base e 1 v 0 [] := ⟨rfl, .inl ⟨hv, rfl⟩⟩
      obtain ⟨v', w', hr, ho', hg, _, hat⟩ := run_append_own_at (P := P) w base t ty e i z 1 bytes ht hi hz hsz hby hzs (by decide) v 0 [] ho a 1 c [x] (by simp) hnews (by simpa using h1) (by simp only [maxLen]; omega) (by simpa using hbytes) hbase
      refine ⟨v', w', hr, Que.of_own (by simpa using ho'), hg, ?_⟩
      rcases hat with hat | hat
      · exact .inl hat
      · exact .inr ⟨_, hat, Nat.le_refl _⟩
    | some b => exact grows b 0 (by simp) (by simp) (by simpa using hv)
  · have hcell : ∀ j u, xs[j]? = some u → w.cell? ⟨g, off + j, none⟩ = some u := by
      intro j u hu
      rw [← htake, List.getElem?_take] at hu
      split at hu
      · rw [List.getElem?_drop, Array.getElem?_toList] at hu
        simp only [World.cell?, hg]
        simpa using hu
      · cases hu
    by_cases hroom : xs.length + 1 ≤ cap
    · have hr := run_append_room_cells (P := P) (w := w) t ty e i ht hi g off xs.length cap a 1 c [x] (by simp [hsz]) hnews (by simpa using h1) hroom
        (fun j hj => by
          have hj : j < 1 := by simpa using hj
          simp only [World.cell?, hg, hsz]
          simp
          omega)
        (fun j _ => by simp [World.frozen?, hg])
      rw [hsz, Nat.mul_one] at hr
      refine ⟨.slice (some ⟨g, off, none⟩) (xs.length + 1) cap, w.setCell ⟨g, off + xs.length, none⟩ x, by rw [hv]; exact hr, .inr ⟨g, off, cap, cur.setIfInBounds (off + xs.length) x, by simp, hbg, ?_, by simpa using hroom, hcm, by simpa using hcs, ?_⟩, ⟨rfl, rfl, rfl, by simp [World.setCell], fun k hk hne => ?_⟩, .inl (by rw [hv]; rfl)⟩
      · simp [World.setCell, Array.getElem?_modify, hg]
      · rw [Array.toList_setIfInBounds, List.drop_set, if_neg (by omega), Nat.add_sub_cancel_left, List.length_append, List.length_singleton, List.take_add_one, List.take_set, htake, List.set_eq_of_length_le (Nat.le_refl _), List.getElem?_set_self (by have e1 : cur.toList.length = cur.size := rfl; rw [List.length_drop]; omega)]
        rfl
      · simp only [World.setCell]
        have : g ≠ k := fun e2 => hne (by rw [hv, e2]; rfl)
        simp [Array.getElem?_modify, this]
    · exact grows ⟨g, off, none⟩ cap (by omega) (fun j u hu => by rw [addr_addq]; exact hcell j u hu) hv
end
end Go.Proofs.Ytchhjldopecliaa
namespace Go.Proofs.Ytchhjldopecliaa

/-! ### texts in order -/
abbrev By := List UInt8
def bs (s : Str) : By := s.data.toList
def ob (l : By) : Str := ⟨l.toArray⟩
theorem ob_bs (s : Str) : ob (bs s) = s := by cases s; simp [ob, bs]
theorem bs_ob (l : By) : bs (ob l) = l := by simp [ob, bs]
theorem bs_inj {a b : Str} (h : bs a = bs b) : a = b := by rw [← ob_bs a, ← ob_bs b, h]
theorem map_ob_bs (l : List Str) : (l.map bs).map ob = l := by
  rw [List.map_map]
  have : (ob ∘ bs) = id := funext ob_bs
  rw [this, List.map_id]
theorem map_bs_ob (l : List By) : (l.map ob).map bs = l := by
  rw [List.map_map]
  have : (bs ∘ ob) = id := funext bs_ob
  rw [this, List.map_id]

def leB (x y : By) : Bool := decide (x ≤ y)
theorem leB_trans (a b c : By) (h : leB a b = true) (k : leB b c = true) : leB a c = true := by
  simp only [leB, decide_eq_true_eq] at *
  exact List.le_trans h k
theorem leB_total (a b : By) : (leB a b || leB b a) = true := by
  simp only [leB, Bool.or_eq_true, decide_eq_true_eq]
  exact List.le_total a b

def sortB (l : List By) : List By := l.mergeSort fun x y => decide (x ≤ y)
theorem sortB_perm (l : List By) : (sortB l).Perm l := List.mergeSort_perm l _
theorem sortB_sorted (l : List By) : (sortB l).Pairwise (· ≤ ·) := by
  have := List.pairwise_mergeSort (le := fun x y : By => decide (x ≤ y)) leB_trans leB_total l
  exact this.imp (fun h => by simpa using h)

theorem lt_of_le_ne {a b : By} (h : a ≤ b) (hne : a ≠ b) : a < b := by
  rcases List.le_iff_lt_or_eq.1 h with h | h
  · exact h
  · exact absurd h hne

theorem compact_get (zs : List By) : Lib.compact zs = ((List.range zs.length).filter (Lib.keeps zs.toArray)).map (zs.toArray[·]!) := rfl
theorem compact_mem (zs : List By) (x : By) : x ∈ Lib.compact zs ↔ x ∈ zs := by
  rw [compact_get, List.mem_map]
  constructor
  · rintro ⟨i, hi, rfl⟩
    have h := List.mem_range.1 (List.mem_filter.1 hi |>.1)
    simp [h]
  · intro h
    obtain ⟨i, hi, rfl⟩ := List.mem_iff_getElem.1 h
    have key : ∀ i, ∀ hi : i < zs.length, ∃ a, a ∈ (List.range zs.length).filter (Lib.keeps zs.toArray) ∧ zs.toArray[a]! = zs[i] := by
      intro i
      induction i with
      | zero =>
        intro hi
        refine ⟨0, List.mem_filter.2 ⟨List.mem_range.2 hi, Lib.keeps_lt_one _ 0 (by omega)⟩, by simp [hi]⟩
      | succ i ih =>
        intro hi
        by_cases hk : Lib.keeps zs.toArray (i + 1) = true
        · exact ⟨i + 1, List.mem_filter.2 ⟨List.mem_range.2 hi, hk⟩, by simp [hi]⟩
        · obtain ⟨a, ha, he⟩ := ih (by omega)
          refine ⟨a, ha, he.trans ?_⟩
          have : ¬ (zs.toArray[i + 1]! ≠ zs.toArray[i + 1 - 1]!) := fun h => hk (Lib.keeps_pos h)
          simp only [ne_eq, Classical.not_not, Nat.add_sub_cancel] at this
          have e1 : zs.toArray[i + 1]! = zs[i + 1] := by simp [hi]
          have e2 : zs.toArray[i]! = zs[i] := by simp [show i < zs.length by omega]
          rw [e1, e2] at this
          exact this.symm
    exact key i hi
theorem compact_sorted (zs : List By) (h : zs.Pairwise (· ≤ ·)) : (Lib.compact zs).Pairwise (· < ·) := by
  rw [compact_get, List.pairwise_map]
  have hr : ((List.range zs.length).filter (Lib.keeps zs.toArray)).Pairwise (· < ·) := List.Pairwise.sublist List.filter_sublist List.pairwise_lt_range
  refine List.Pairwise.imp_of_mem ?_ hr
  intro i j hi hj hij
  have hjl := List.mem_range.1 (List.mem_filter.1 hj |>.1)
  have hkj := (List.mem_filter.1 hj).2
  have hne : zs.toArray[j]! ≠ zs.toArray[j - 1]! := fun e => by
    rw [Lib.keeps_neg (by omega) e] at hkj
    cases hkj
  have e1 : zs.toArray[i]! = zs[i] := by simp [show i < zs.length by omega]
  have e2 : zs.toArray[j]! = zs[j] := by simp [hjl]
  have e3 : zs.toArray[j - 1]! = zs[j - 1] := by simp [show j - 1 < zs.length by omega]
  rw [e2, e3] at hne
  rw [e1, e2]
  have hp := List.pairwise_iff_getElem.1 h
  have h1 : zs[j - 1] < zs[j] := lt_of_le_ne (hp (j - 1) j (by omega) hjl (by omega)) (fun e => hne e.symm)
  rcases Nat.lt_or_ge i (j - 1) with h2 | h2
  · exact List.lt_of_le_of_lt (hp i (j - 1) (by omega) (by omega) h2) h1
  · obtain rfl : i = j - 1 := by omega
    exact h1

/-- Two ascending lists with the same members are one. -/
theorem sorted_ext : ∀ {a b : List By}, a.Pairwise (· < ·) → b.Pairwise (· < ·) → (∀ x, x ∈ a ↔ x ∈ b) → a = b
  | [], [], _, _, _ => rfl
  | [], y :: b, _, _, h => absurd ((h y).2 (List.mem_cons_self ..)) (by simp)
  | x :: a, [], _, _, h => absurd ((h x).1 (List.mem_cons_self ..)) (by simp)
  | x :: a, y :: b, ha, hb, h => by
    rw [List.pairwise_cons] at ha hb
    have hxy : x = y := by
      have h1 := (h x).1 (List.mem_cons_self ..)
      have h2 := (h y).2 (List.mem_cons_self ..)
      rcases List.mem_cons.1 h1 with h1 | h1
      · exact h1
      · rcases List.mem_cons.1 h2 with h2 | h2
        · exact h2.symm
        · exact absurd (List.lt_trans (ha.1 _ h2) (hb.1 _ h1)) (List.lt_irrefl _)
    subst hxy
    congr 1
    refine sorted_ext ha.2 hb.2 fun z => ?_
    have := h z
    simp only [List.mem_cons] at this
    constructor
    · intro hz
      rcases this.1 (.inr hz) with e | e
      · subst e; exact absurd (ha.1 _ hz) (List.lt_irrefl _)
      · exact e
    · intro hz
      rcases this.2 (.inr hz) with e | e
      · subst e; exact absurd (hb.1 _ hz) (List.lt_irrefl _)
      · exact e

/-- The set of texts, ascending. -/
def srtS (l : List Str) : List Str := (sortB (l.map bs)).map ob
def setS (l : List Str) : List Str := (Lib.compact (sortB (l.map bs))).map ob
theorem srtS_nil : srtS [] = [] := by simp [srtS, sortB]
theorem setS_nil : setS [] = [] := by simp [setS, sortB, Lib.compact, Lib.compactUpTo]
theorem bs_srtS (l : List Str) : (srtS l).map bs = sortB (l.map bs) := map_bs_ob _
theorem setS_map (l : List Str) : (setS l).map bs = Lib.compact ((srtS l).map bs) := by rw [bs_srtS]; exact map_bs_ob _
theorem setS_sorted (l : List Str) : ((setS l).map bs).Pairwise (· < ·) := by rw [setS_map, bs_srtS]; exact compact_sorted _ (sortB_sorted _)
theorem mem_map_bs {s : Str} {l : List Str} : bs s ∈ l.map bs ↔ s ∈ l := by
  rw [List.mem_map]
  exact ⟨fun ⟨a, ha, e⟩ => bs_inj e ▸ ha, fun h => ⟨s, h, rfl⟩⟩
theorem mem_setS {s : Str} {l : List Str} : s ∈ setS l ↔ s ∈ l := by
  rw [← mem_map_bs, setS_map, compact_mem, bs_srtS, (sortB_perm _).mem_iff, mem_map_bs]
theorem mem_srtS {s : Str} {l : List Str} : s ∈ srtS l ↔ s ∈ l := by
  rw [← mem_map_bs, bs_srtS, (sortB_perm _).mem_iff, mem_map_bs]
theorem srtS_length (l : List Str) : (srtS l).length = l.length := by simp [srtS, sortB]
theorem map_bs_inj {a b : List Str} (h : a.map bs = b.map bs) : a = b := by rw [← map_ob_bs a, ← map_ob_bs b, h]
theorem setS_ext {a b : List Str} (h : ∀ s, s ∈ a ↔ s ∈ b) : setS a = setS b := by
  apply map_bs_inj
  refine sorted_ext (setS_sorted a) (setS_sorted b) fun x => ?_
  have := h (ob x)
  rw [← bs_ob x, mem_map_bs, mem_map_bs, mem_setS, mem_setS]
  exact this
theorem setS_nodup (l : List Str) : (setS l).Nodup := by
  have h := setS_sorted l
  rw [List.pairwise_map] at h
  exact h.imp fun hab e => by subst e; exact List.lt_irrefl _ hab
theorem setS_eq_of_sorted {l : List Str} (h : (l.map bs).Pairwise (· < ·)) : setS l = l := by
  apply map_bs_inj
  refine sorted_ext (setS_sorted l) h fun x => ?_
  rw [← bs_ob x, mem_map_bs, mem_map_bs, mem_setS]
theorem nodup_le {α : Type} [DecidableEq α] : ∀ {a b : List α}, a.Nodup → (∀ x ∈ a, x ∈ b) → a.length ≤ b.length
  | [], b, _, _ => by simp
  | x :: a, b, hn, hs => by
    rw [List.nodup_cons] at hn
    have hx : x ∈ b := hs x (List.mem_cons_self ..)
    have ih := nodup_le (a := a) (b := b.erase x) hn.2 (fun y hy =>
      (List.mem_erase_of_ne (fun e => hn.1 (by rw [← e]; exact hy))).2 (hs y (List.mem_cons_of_mem _ hy)))
    have hl := (List.perm_cons_erase hx).length_eq
    simp only [List.length_cons] at hl ⊢
    omega
theorem nodup_eq {α : Type} [DecidableEq α] : ∀ {a b : List α}, a.Nodup → (∀ x ∈ a, x ∈ b) → a.length = b.length → b.Nodup
  | [], b, _, _, h => by
    have : b = [] := List.eq_nil_of_length_eq_zero (by simpa using h.symm)
    subst this; exact List.nodup_nil
  | x :: a, b, hn, hs, h => by
    rw [List.nodup_cons] at hn
    have hx : x ∈ b := hs x (List.mem_cons_self ..)
    have hp := List.perm_cons_erase hx
    have hl := hp.length_eq
    simp only [List.length_cons] at hl h
    have hs' : ∀ y ∈ a, y ∈ b.erase x := fun y hy =>
      (List.mem_erase_of_ne (fun e => hn.1 (by rw [← e]; exact hy))).2 (hs y (List.mem_cons_of_mem _ hy))
    have ih := nodup_eq (a := a) (b := b.erase x) hn.2 hs' (by omega)
    rw [hp.nodup_iff, List.nodup_cons]
    refine ⟨fun hxe => ?_, ih⟩
    have h5 := nodup_le (a := x :: a) (b := b.erase x) (List.nodup_cons.2 hn) (fun z hz => by
      rcases List.mem_cons.1 hz with rfl | hz
      · exact hxe
      · exact hs' z hz)
    simp only [List.length_cons] at h5
    omega
theorem setS_length_le (l : List Str) : (setS l).length ≤ l.length := nodup_le (setS_nodup l) (fun _ hx => mem_setS.1 hx)
theorem twice_iff (l : List Str) : decide ((setS l).length < l.length) = decide (¬ l.Nodup) := by
  rw [decide_eq_decide]
  constructor
  · intro h hn
    have := nodup_le hn (fun x hx => mem_setS.2 hx)
    omega
  · intro h
    have h1 := setS_length_le l
    rcases Nat.lt_or_ge (setS l).length l.length with h2 | h2
    · exact h2
    · exact absurd (nodup_eq (setS_nodup l) (fun x hx => mem_setS.1 hx) (by omega)) h
end Go.Proofs.Ytchhjldopecliaa
namespace Go.Proofs
open Go.Shelf
def Try.lays190_ren : Go.Shelf.Ren := ⟨fun | 190 => 97 | 125 => 114 | 258 => 113 | 128 => 126 | 129 => 127 | 302 => 117 | 303 => 118 | 304 => 119 | 305 => 120 | 306 => 121 | 307 => 122 | 308 => 123 | 309 => 124 | 310 => 125 | 333 => 128 | 329 => 129 | 330 => 130 | 334 => 131 | 335 => 132 | 336 => 133 | 344 => 134 | n => n, fun | 31 => 23 | 9 => 9 | 3 => 3 | 46 => 137 | 0 => 0 | 51 => 139 | 53 => 153 | 4 => 4 | 183 => 145 | 182 => 144 | 131 => 107 | 5 => 5 | 218 => 154 | 222 => 158 | 228 => 160 | 229 => 117 | n => n, fun | n => n⟩
theorem Try.lays190 : Go.Proofs.Lays.n190 Try.prog Try.lays190_ren := {
  mixed := by kernel_rfl
  f125 := Try.func114.trans (congrArg some (by kernel_rfl))
  f128 := Try.func126.trans (congrArg some (by kernel_rfl))
  f129 := Try.func127.trans (congrArg some (by kernel_rfl))
  f190 := Try.func97.trans (congrArg some (by kernel_rfl))
  f258 := Try.func113.trans (congrArg some (by kernel_rfl))
  f302 := Try.func117.trans (congrArg some (by kernel_rfl))
  f303 := Try.func118.trans (congrArg some (by kernel_rfl))
  f304 := Try.func119.trans (congrArg some (by kernel_rfl))
  f305 := Try.func120.trans (congrArg some (by kernel_rfl))
  f306 := Try.func121.trans (congrArg some (by kernel_rfl))
  f307 := Try.func122.trans (congrArg some (by kernel_rfl))
  f308 := Try.func123.trans (congrArg some (by kernel_rfl))
  f309 := Try.func124.trans (congrArg some (by kernel_rfl))
  f310 := Try.func125.trans (congrArg some (by kernel_rfl))
  f329 := Try.func129.trans (congrArg some (by kernel_rfl))
  f330 := Try.func130.trans (congrArg some (by kernel_rfl))
  f333 := Try.func128.trans (congrArg some (by kernel_rfl))
  f334 := Try.func131.trans (congrArg some (by kernel_rfl))
  f335 := Try.func132.trans (congrArg some (by kernel_rfl))
  f336 := Try.func133.trans (congrArg some (by kernel_rfl))
  f344 := Try.func134.trans (congrArg some (by kernel_rfl))
  t0 := Try.underlying0
  a0 := Try.isAgg0
  z0 := Try.sizeOf0
  v0 := Try.zeroValue0
  t3 := Try.underlying3
  a3 := Try.isAgg3
  z3 := Try.sizeOf3
  v3 := Try.zeroValue3
  t4 := Try.underlying4
  a4 := Try.isAgg4
  z4 := Try.sizeOf4
  v4 := Try.zeroValue4
  t5 := Try.underlying5
  a5 := Try.isAgg5
  z5 := Try.sizeOf5
  v5 := Try.zeroValue5
  t9 := Try.underlying9
  a9 := Try.isAgg9
  z9 := Try.sizeOf9
  v9 := Try.zeroValue9
  t31 := Try.underlying23
  a31 := Try.isAgg23
  z31 := Try.sizeOf23
  v31 := Try.zeroValue23
  t46 := Try.underlying137
  a46 := Try.isAgg137
  z46 := Try.sizeOf137
  v46 := Try.zeroValue137
  t51 := Try.underlying139
  a51 := Try.isAgg139
  z51 := Try.sizeOf139
  v51 := Try.zeroValue139
  t53 := Try.underlying153
  a53 := Try.isAgg153
  z53 := Try.sizeOf153
  v53 := Try.zeroValue153
  t131 := Try.underlying107
  a131 := Try.isAgg107
  z131 := Try.sizeOf107
  v131 := Try.zeroValue107
  t182 := Try.underlying144
  a182 := Try.isAgg144
  z182 := Try.sizeOf144
  v182 := Try.zeroValue144
  t183 := Try.underlying145
  a183 := Try.isAgg145
  z183 := Try.sizeOf145
  v183 := Try.zeroValue145
  t218 := Try.underlying154
  a218 := Try.isAgg154
  z218 := Try.sizeOf154
  v218 := Try.zeroValue154
  t222 := Try.underlying158
  a222 := Try.isAgg158
  z222 := Try.sizeOf158
  v222 := Try.zeroValue158
  t228 := Try.underlying160
  a228 := Try.isAgg160
  z228 := Try.sizeOf160
  v228 := Try.zeroValue160
  t229 := Try.underlying117
  a229 := Try.isAgg117
  z229 := Try.sizeOf117
  v229 := Try.zeroValue117 }
open Go.Sort Go.RowKit in
theorem Try.slices_Sort_string (blk off cap : Nat) (ss : List (List UInt8)) (w : World) (hH : Holds encStr w blk off ss.toArray) (hblk : blk < w.heap.size) (hsz : ss.length < 4611686018427387904) :
    Calls Try.prog 97 #[.slice (some ⟨blk, off, none⟩) ss.length cap] w fun e w' =>
      e = .returned (.tuple #[]) ∧ ∃ n os, w' = grow (putRow encStr (Sort.ahead w n) blk off (ss.mergeSort fun x y => decide (x ≤ y)).toArray) os := Any.slices_Sort_string Try.lays190 blk off cap ss w hH hblk hsz
def Try.lays192_ren : Go.Shelf.Ren := ⟨fun | 192 => 103 | 190 => 97 | 125 => 114 | 258 => 113 | 128 => 126 | 129 => 127 | 302 => 117 | 303 => 118 | 304 => 119 | 305 => 120 | 306 => 121 | 307 => 122 | 308 => 123 | 309 => 124 | 310 => 125 | 333 => 128 | 329 => 129 | 330 => 130 | 334 => 131 | 335 => 132 | 336 => 133 | 344 => 134 | n => n, fun | 31 => 23 | 0 => 0 | 9 => 9 | 3 => 3 | 46 => 137 | 51 => 139 | 53 => 153 | 4 => 4 | 183 => 145 | 182 => 144 | 131 => 107 | 5 => 5 | 218 => 154 | 222 => 158 | 228 => 160 | 229 => 117 | n => n, fun | n => n⟩
theorem Try.lays192 : Go.Proofs.Lays.n192 Try.prog Try.lays192_ren := {
  mixed := by kernel_rfl
  f125 := Try.func114.trans (congrArg some (by kernel_rfl))
  f128 := Try.func126.trans (congrArg some (by kernel_rfl))
  f129 := Try.func127.trans (congrArg some (by kernel_rfl))
  f190 := Try.func97.trans (congrArg some (by kernel_rfl))
  f192 := Try.func103.trans (congrArg some (by kernel_rfl))
  f258 := Try.func113.trans (congrArg some (by kernel_rfl))
  f302 := Try.func117.trans (congrArg some (by kernel_rfl))
  f303 := Try.func118.trans (congrArg some (by kernel_rfl))
  f304 := Try.func119.trans (congrArg some (by kernel_rfl))
  f305 := Try.func120.trans (congrArg some (by kernel_rfl))
  f306 := Try.func121.trans (congrArg some (by kernel_rfl))
  f307 := Try.func122.trans (congrArg some (by kernel_rfl))
  f308 := Try.func123.trans (congrArg some (by kernel_rfl))
  f309 := Try.func124.trans (congrArg some (by kernel_rfl))
  f310 := Try.func125.trans (congrArg some (by kernel_rfl))
  f329 := Try.func129.trans (congrArg some (by kernel_rfl))
  f330 := Try.func130.trans (congrArg some (by kernel_rfl))
  f333 := Try.func128.trans (congrArg some (by kernel_rfl))
  f334 := Try.func131.trans (congrArg some (by kernel_rfl))
  f335 := Try.func132.trans (congrArg some (by kernel_rfl))
  f336 := Try.func133.trans (congrArg some (by kernel_rfl))
  f344 := Try.func134.trans (congrArg some (by kernel_rfl))
  t0 := Try.underlying0
  a0 := Try.isAgg0
  z0 := Try.sizeOf0
  v0 := Try.zeroValue0
  t3 := Try.underlying3
  a3 := Try.isAgg3
  z3 := Try.sizeOf3
  v3 := Try.zeroValue3
  t4 := Try.underlying4
  a4 := Try.isAgg4
  z4 := Try.sizeOf4
  v4 := Try.zeroValue4
  t5 := Try.underlying5
  a5 := Try.isAgg5
  z5 := Try.sizeOf5
  v5 := Try.zeroValue5
  t9 := Try.underlying9
  a9 := Try.isAgg9
  z9 := Try.sizeOf9
  v9 := Try.zeroValue9
  t31 := Try.underlying23
  a31 := Try.isAgg23
  z31 := Try.sizeOf23
  v31 := Try.zeroValue23
  t46 := Try.underlying137
  a46 := Try.isAgg137
  z46 := Try.sizeOf137
  v46 := Try.zeroValue137
  t51 := Try.underlying139
  a51 := Try.isAgg139
  z51 := Try.sizeOf139
  v51 := Try.zeroValue139
  t53 := Try.underlying153
  a53 := Try.isAgg153
  z53 := Try.sizeOf153
  v53 := Try.zeroValue153
  t131 := Try.underlying107
  a131 := Try.isAgg107
  z131 := Try.sizeOf107
  v131 := Try.zeroValue107
  t182 := Try.underlying144
  a182 := Try.isAgg144
  z182 := Try.sizeOf144
  v182 := Try.zeroValue144
  t183 := Try.underlying145
  a183 := Try.isAgg145
  z183 := Try.sizeOf145
  v183 := Try.zeroValue145
  t218 := Try.underlying154
  a218 := Try.isAgg154
  z218 := Try.sizeOf154
  v218 := Try.zeroValue154
  t222 := Try.underlying158
  a222 := Try.isAgg158
  z222 := Try.sizeOf158
  v222 := Try.zeroValue158
  t228 := Try.underlying160
  a228 := Try.isAgg160
  z228 := Try.sizeOf160
  v228 := Try.zeroValue160
  t229 := Try.underlying117
  a229 := Try.isAgg117
  z229 := Try.sizeOf117
  v229 := Try.zeroValue117 }
open Go.Sort Go.RowKit in
theorem Try.sort_Strings (blk off cap : Nat) (ss : List (List UInt8)) (w : World) (hH : Holds encStr w blk off ss.toArray) (hblk : blk < w.heap.size) (hsz : ss.length < 4611686018427387904) :
    Calls Try.prog 103 #[.slice (some ⟨blk, off, none⟩) ss.length cap] w fun e w' =>
      e = .returned (.tuple #[]) ∧ ∃ n os, w' = grow (putRow encStr (Sort.ahead w n) blk off (ss.mergeSort fun x y => decide (x ≤ y)).toArray) os := Any.sort_Strings Try.lays192 blk off cap ss w hH hblk hsz
def Try.lays194_ren : Go.Shelf.Ren := ⟨fun | 194 => 85 | n => n, fun | 31 => 23 | 9 => 9 | 3 => 3 | 4 => 4 | 0 => 0 | n => n, fun | n => n⟩
theorem Try.lays194 : Go.Proofs.Lays.n194 Try.prog Try.lays194_ren := {
  mixed := by kernel_rfl
  f194 := Try.func85.trans (congrArg some (by kernel_rfl))
  t0 := Try.underlying0
  a0 := Try.isAgg0
  z0 := Try.sizeOf0
  v0 := Try.zeroValue0
  t3 := Try.underlying3
  a3 := Try.isAgg3
  z3 := Try.sizeOf3
  v3 := Try.zeroValue3
  t4 := Try.underlying4
  a4 := Try.isAgg4
  z4 := Try.sizeOf4
  v4 := Try.zeroValue4
  t9 := Try.underlying9
  a9 := Try.isAgg9
  z9 := Try.sizeOf9
  v9 := Try.zeroValue9
  t31 := Try.underlying23
  a31 := Try.isAgg23
  z31 := Try.sizeOf23
  v31 := Try.zeroValue23 }
open Go.RowKit Go.Lib Go.Sort in
/-- slices.Compact at []string: "Compact replaces consecutive runs of equal elements with a single copy. This is like the uniq command found on Unix. Compact modifies the contents of the slice s and returns the modified slice, which may have a smaller length. Compact zeroes the elements between the new length and the original length. The result preserves the nilness of s.": IT RETURNS THE SLICE CUT TO 'Lib.compact zs'; ITS CELLS HOLD 'Lib.compact zs', THEN ZERO VALUES up to the old length; all else is as it was, but for the count of draws. IN THE WORDS OF slices.Sort's CONTRACT ('Holds', 'putRow'): so the everyday 'slices.Sort(xs); xs = slices.Compact(xs)' goes from the one contract to the other. It asks 'zs.length ≤ cap' (every slice's: the reslicing 's[:k]' looks at it). Length 0, nil: '.._empty'. (LAID: no walk: one application.) -/
theorem Try.slices_Compact_string (blk off cap : Nat) (zs : List (List UInt8)) (w : World) (hH : Holds encStr w blk off zs.toArray) (hsz : zs.length ≤ 9223372036854775807) (hcap : zs.length ≤ cap) :
    Calls Try.prog 85 #[.slice (some ⟨blk, off, none⟩) zs.length cap] w fun e w' => e = .returned (.slice (some ⟨blk, off, none⟩) (Lib.compact zs).length cap) ∧ ∃ q, w' = putRow encStr (Sort.ahead w q) blk off (Lib.compact zs ++ List.replicate (zs.length - (Lib.compact zs).length) []).toArray := Any.slices_Compact_string Try.lays194 blk off cap zs w hH hsz hcap
open Go.RowKit Go.Lib Go.Sort in
/-- The same at a slice of length 0, a nil one too: it comes back as it is. (LAID: no walk: one application.) -/
theorem Try.slices_Compact_string_empty (a : Option Addr) (cap : Nat) (w : World) :
    Calls Try.prog 85 #[.slice a 0 cap] w fun e w' => e = .returned (.slice a 0 cap) ∧ w' = w := Any.slices_Compact_string_empty Try.lays194 a cap w
open Go.RowKit Go.Sort in
/-- .. and plain. (LAID: no walk: one application.) -/
theorem Try.slices_Sort_string_none (p : Option Addr) (cap : Nat) (w : World) :
    Calls Try.prog 97 #[.slice p 0 cap] w fun e w' => e = .returned (.tuple #[]) ∧ w' = w := Any.slices_Sort_string_none Try.lays190 p cap w
open Go.RowKit Go.Sort in
/-- .. and plain. (LAID: no walk: one application.) -/
theorem Try.sort_Strings_none (p : Option Addr) (cap : Nat) (w : World) :
    Calls Try.prog 103 #[.slice p 0 cap] w fun e w' => e = .returned (.tuple #[]) ∧ w' = w := Any.sort_Strings_none Try.lays192 p cap w
end Go.Proofs
namespace Go.Proofs.Ytchhjldopecliaa
open Go.RowKit Go.Shelf

attribute [local go_sem] Oper.semAt_some

/-- What a round keeps: the cells below n₀, and whatever is no cells. -/
def Kp (n₀ : Nat) (A B : World) : Prop := Below n₀ A B ∧ KeepsWalks A B
theorem Kp_t {n₀ : Nat} {A B C : World} (h : Kp n₀ A B) (k : Kp n₀ B C) : Kp n₀ A C := ⟨belowK_t h.1 k.1, walksK_t h.2 k.2⟩
theorem Kp_b {n₀ : Nat} {w : World} (hn : n₀ ≤ w.heap.size) (W : World) (l : Nat) (o o' : Obj) (hl : w.heap.size ≤ l) (h : W.heap[l]? = some o) (hc : o.isCells = false) (hw : o.isWalk = false) : Kp n₀ W (W.putObj l o') :=
  ⟨belowK_b hn W l o o' hl h hc hw, walksK_b (w := w) W l o o' hl h hc hw⟩

theorem info_str : (Try.prog.info? 9).map (fun i => (i.zero, i.size, i.bytes)) = some (some (.string ByteArray.empty), 1, 16) := by kernel_rfl

set_option maxRecDepth 100000 in
set_option maxHeartbeats 2000000 in
/-- slices.AppendSeq(nil, seq), against whatever iterator. -/
theorem i_AppendSeq (n : Nat) (hn : 3 ≤ n) (g : Nat) (lb : Array Value) (eg : ∀ args w, (callFunc g args).run Try.prog w = .ok (.enter g args) w) (S Sp : List Str → Prop) (N : Nat) (hN : N * 16 ≤ 140737488355328) (w : World)
    (hseq : ∀ W, Below w.heap.size w W → SeqStopsK Fence.wide (n - 1) Try.prog g lb (fun x : Str => #[Value.string x]) (Kp w.heap.size) S Sp N W) :
    CallsIn Fence.wide n Try.prog 115 #[.slice none 0 0, .func (.func g) #[] lb] w fun e W' =>
      ∃ v xs, e = .returned v ∧ S xs ∧ W'.ownsRow w.heap.size 9 1 v xs.length (xs.map Value.string) ∧ Below w.heap.size w W' := by
  have h1 : 1 ≤ n := by omega
  obtain ⟨i0, hi, hz0, hz1, hz2⟩ := info_parts info_str
  refine callsIn_of_wp_marks Try.func115 rfl trivial ?_ rfl
  simp only [Try.ntmps115, List.size_toArray, List.length_cons, List.length_nil, Nat.reduceAdd, Nat.reduceSub, Array.replicate_succ, Array.replicate_zero, List.push_toArray, List.append_toArray, List.nil_append, List.cons_append]
  gi_wp2
  have bO := Boxed.new w 23 (.slice none 0 0)
  have hB0 : Below w.heap.size w (w.alloc (.cells #[.slice none 0 0] 23)) := (Below.refl _ w).alloc (Nat.le_refl _) _
  refine wpIn_rangeFunc_ownG (F := Fence.wide) rfl h1 (gf := g) (lb := lb) rfl trivial eg (hseq _ hB0) Kp_t (Kp_b (by simp)) (Below.refl _ _) (fun _ => rfl)
    (fun pre W => (∃ v, Boxed W w.heap.size 23 v ∧ W.ownsRow w.heap.size 9 1 v pre.length (pre.map Value.string) ∧ True) ∧ Below w.heap.size w W)
    (fun _ _ _ => False)
    (OwnFrom.and (Own.from (holdsRow_own w.heap.size w.heap.size 23 9 1 (fun pre : List Str => pre.length) (fun pre => pre.map Value.string) (fun _ _ => True)) _) (ownFrom_below (Nat.le_refl _) (by simp)))
    (fun _ _ _ _ _ hs _ _ => hs)
    ⟨⟨_, bO, World.ownsRow_nil _ _ _ _, trivial⟩, hB0⟩
    (fun x => { tmps := #[.slice none 0 0, .func (.func g) #[] lb, .pointer (some ⟨w.heap.size, 0, none⟩), undef, .slice none 0 0, .string x, .func (.func g) #[] lb, .string x, undef, undef, undef, undef, undef], defers := [] }) ?assign ?body ?done ?stop
  case assign =>
    intro l x W K hK
    gi_wp2
    exact hK
  case body =>
    rintro l pre x W ⟨⟨v, hv, hrow, _⟩, hB⟩ hlt
    have hc := hv.cell
    gi_wp2_with (gi_at_builtin; refine wpListIn_append_own _ rfl _ _ 23 rfl w.heap.size 9 i0 (.string ByteArray.empty) 1 16 Try.underlying23 hi hz0 hz1 hz2 rfl (by decide) _ _ _ rfl (hrow.alloc _) ⟨W.heap.size, 0, none⟩ 1 1 [.string x] rfl rfl (cell_one_new _ _ _) (by simp [Value.oneCell']) (by simp only [maxLen]; omega) (by omega) (by have := hB.size; simp; omega) ?_; intro v' w1 hown' hgrow _; obtain ⟨g', cap', rfl⟩ := ownsRow_succ hown'; obtain ⟨hv1, hv2, hr2, hk2, hb2⟩ := hv.appended (by decide) hrow hB.size (Nat.le_refl _) hown' hgrow; have hc1 := hv1.cell; have hf1 := hv1.frozen)
    exact ⟨hk2.from _, ⟨hb2, hk2.walks⟩, ⟨_, hv2, by simpa using hr2, trivial⟩, hB.trans hb2⟩
  case done =>
    rintro D ys W hD hS ⟨⟨v, hv, hrow, _⟩, hB⟩ hK
    have hc := hv.cell
    gi_wp2
    refine ⟨by simp, .inl ⟨_, _, rfl, run_takeDeferred hK, ?_⟩⟩
    exact ⟨_, results_tmp rfl _ _ _, v, ys, rfl, hS, ownsRow_putObj hrow _ hK rfl, hB.trans (belowK_b (w := w) (Nat.le_refl _) W D _ _ (by simp at hD; omega) hK rfl rfl)⟩
  case stop =>
    rintro D c pre W _ _ h _
    exact h.elim

set_option maxHeartbeats 1000000 in
/-- slices.Collect(seq). -/
theorem i_Collect (n : Nat) (hn : 4 ≤ n) (g : Nat) (lb : Array Value) (eg : ∀ args w, (callFunc g args).run Try.prog w = .ok (.enter g args) w) (S Sp : List Str → Prop) (N : Nat) (hN : N * 16 ≤ 140737488355328) (w : World)
    (hseq : ∀ W, Below w.heap.size w W → SeqStopsK Fence.wide (n - 1 - 1) Try.prog g lb (fun x : Str => #[Value.string x]) (Kp w.heap.size) S Sp N W) :
    CallsIn Fence.wide n Try.prog 100 #[.func (.func g) #[] lb] w fun e W' =>
      ∃ v xs, e = .returned v ∧ S xs ∧ W'.ownsRow w.heap.size 9 1 v xs.length (xs.map Value.string) ∧ Below w.heap.size w W' := by
  have C := Box.mk (i_AppendSeq (n - 1) (by omega) g lb eg S Sp N hN w hseq)
  clear hseq eg
  have hf : Fence.wide.fn 115 := trivial
  have h1 : 1 ≤ n := by omega
  refine callsIn_of_wp Try.func100 rfl trivial ?_ rfl
  simp only [Try.ntmps100, List.size_toArray, List.length_cons, List.length_nil, Nat.reduceAdd, Nat.reduceSub, Array.replicate_succ, Array.replicate_zero, List.push_toArray, List.append_toArray, List.nil_append, List.cons_append]
  gi_wp2_with (gi_at_call 115; refine C.out.mono ?_; rintro e W' ⟨v, xs, rfl, hS, ho, hb⟩)
  go_ret
  exact ⟨v, xs, rfl, hS, ho, hb⟩

/-! ### slices.Values -/
set_option maxRecDepth 100000 in
set_option maxHeartbeats 2000000 in
theorem i_values (n : Nat) (hn : 1 ≤ n) (n₀ Bs : Nat) (A : Option Addr) (len c : Nat) (xs : List Str) (w : World) (hBs : Bs < w.heap.size) (hn₀ : w.heap.size = n₀) (hc : w.cell? ⟨Bs, 0, none⟩ = some (.slice A len c)) (h : SlR w 1 RStr A len c xs) (W0 : World) (hW0 : Below n₀ w W0) :
    SeqStopsK Fence.wide n Try.prog 107 #[.pointer (some ⟨Bs, 0, none⟩)] (fun x : Str => #[Value.string x]) (Kp n₀) (fun ys => ys = xs) (fun _ => True) len W0 := by
  subst hn₀
  intro l J Jx W hW hJ hJx hY h0
  have hb0 : Below w.heap.size w W := hW0.trans (hW.mono hW0.size)
  have d0 := cellk hb0 hBs hc
  have H := Box.mk (h.below mono_str hb0)
  have hlim := h.lim
  have HB0 := Box.mk hb0
  have HY := Box.mk hY
  have HH := Box.mk h
  clear hb0 hW hY hc h hJ hJx hBs hW0
  refine callsIn_of_wp Try.func107 rfl trivial ?_ rfl
  simp only [Try.ntmps107, List.size_toArray, List.length_cons, List.length_nil, Nat.reduceAdd, Nat.reduceSub, Array.replicate_succ, Array.replicate_zero, List.push_toArray, List.append_toArray, List.nil_append, List.cons_append]
  gi_wp2
  gi_loopw [7] (fun i wr => ∃ k : Nat, k ≤ len ∧ i = .int .i64 k ∧ Box (J (xs.take k) wr) ∧ Box (Below w.heap.size w wr)) (fun i _ => len - (intOf i).toNat)
  case atStart => exact ⟨0, Nat.zero_le _, rfl, ⟨by simpa using h0⟩, HB0⟩
  case round =>
    obtain ⟨k, hk, rfl, HJ, HB⟩ := hrel
    by_cases hlt : k < len
    · obtain ⟨b, off, x, rfl, hb, hx, hs, hcx⟩ := (HH.out.below mono_str HB.out).str_at k hlt
      obtain ⟨fn, tmps, assign, body, hy, hR⟩ := HY.out _ x wr HJ.out (by rw [List.length_take]; omega)
      have HX : Box (xs.take (k + 1) = xs.take k ++ [x]) := ⟨by rw [List.take_add_one, hx]; rfl⟩
      clear hx hs
      gi_wp2
      refine hR.mono ?_
      rintro e W3 (⟨rfl, hJ3, hk3⟩ | ⟨rfl, hJx3⟩)
      · gi_wp2
        go_roundw
        case rel => exact ⟨k + 1, by omega, by go_num, ⟨by rw [HX.out]; exact hJ3⟩, ⟨HB.out.trans hk3.1⟩⟩
        case measure => simp [intOf]; omega
      · gi_wp2
        refine bodyPost_ret (results_none rfl _ _ _) rfl ?_
        exact ⟨⟨_, rfl⟩, .inr ⟨_, trivial, hJx3⟩⟩
    · obtain rfl : k = len := by omega
      gi_wp2
      go_end0
      exact ⟨⟨_, rfl⟩, .inl ⟨_, rfl, by have := HJ.out; rwa [List.take_of_length_le (by rw [HH.out.len]; exact Nat.le_refl _)] at this⟩⟩

theorem c_Values (A : Option Addr) (n c : Nat) (w : World) :
    Calls Try.prog 86 #[.slice A n c] w fun e w' => e = .returned (.func (.func 107) #[] #[.pointer (some ⟨w.heap.size, 0, none⟩)]) ∧ w.alloc (.cells #[.slice A n c] 23) = w' := by
  go_enter Try.func86, Try.ntmps86
  go_wp2_with fail
  go_ret
  exact ⟨rfl, rfl⟩
end Go.Proofs.Ytchhjldopecliaa
namespace Go.Proofs.Ytchhjldopecliaa
open Go.RowKit

/-! ### names -/
def letr (c : Nat) : Bool := (97 ≤ c && c ≤ 122) || (65 ≤ c && c ≤ 90)
/-- The byte c may not stand at the place i. -/
def badc (i c : Nat) : Bool := !letr c && (i == 0 || (c != 95 && (decide (c < 48) || decide (57 < c))))
def nameOk (s : ByteArray) : Bool := ((List.range s.size).all fun i => !badc i (bAt s i)) && (decide (1 ≤ s.size) && decide (s.size ≤ 10))

theorem nameOk_false {s : ByteArray} {k : Nat} (hk : k < s.size) (h : badc k (bAt s k) = true) : nameOk s = false := by
  unfold nameOk
  rw [Bool.and_eq_false_iff]
  left
  rw [List.all_eq_false]
  exact ⟨k, List.mem_range.2 hk, by simp [h]⟩
theorem nameOk_end {s : ByteArray} (h : ∀ j, j < s.size → badc j (bAt s j) = false) : nameOk s = (decide (1 ≤ s.size) && decide (s.size ≤ 10)) := by
  unfold nameOk
  have : ((List.range s.size).all fun i => !badc i (bAt s i)) = true := by
    rw [List.all_eq_true]
    intro i hi
    rw [h i (List.mem_range.1 hi)]
    rfl
  rw [this, Bool.true_and]

set_option maxRecDepth 100000 in
set_option maxHeartbeats 1000000 in
theorem c_isName (s : ByteArray) (w : World) (hs : s.size ≤ 140737488351232) :
    Calls Try.prog 94 #[.string s] w fun e w' => e = .returned (.bool (nameOk s)) ∧ Below w.heap.size w w' := by
  have kb := Lib.run_convert_string_bytes (P := Try.prog) w 9 133 5 s Try.underlying9 Try.underlying133 Try.underlying5
  have hcell : ∀ j, j < s.size → (Lib.bytesWorld w 5 s).cell? ⟨w.heap.size, j, none⟩ = some (.int .u8 (bAt s j)) := fun j hj => Lib.bytesWorld_cell w 5 s j hj
  have hbel : Below w.heap.size w (Lib.bytesWorld w 5 s) := below_bytes (Below.refl _ _) 5 s
  generalize Lib.bytesWorld w 5 s = W1 at hcell hbel kb
  have Hc := Box.mk hcell
  have Hb := Box.mk hbel
  clear hcell hbel
  go_enter Try.func94, Try.ntmps94
  go_wp2
  go_loop [2, 3, 4, 5, 9] (fun _ _ _ _ i => ∃ k : Nat, k ≤ s.size ∧ i = .int .i64 k ∧ Box (∀ j, j < k → badc j (bAt s j) = false)) (fun _ _ _ _ i => s.size - (intOf i).toNat)
  case atStart => exact ⟨0, Nat.zero_le _, rfl, ⟨fun j hj => by omega⟩⟩
  case round =>
    obtain ⟨k, hk, rfl, HK⟩ := hrel
    by_cases hlt : k < s.size
    · have hc := Hc.out k hlt
      have hx := bAt_lt s k
      generalize hv : bAt s k = v at hc hx
      have HV := Box.mk hv
      clear hv
      go_upto_region 4 with fail
      go_cut [3, 4, 5] (fun t3 t4 t5 w' => t3 = .int .i64 k ∧ t4 = .int .u8 v ∧ t5 = .bool (letr v) ∧ w' = W1)
      case first =>
        go_wp2
        all_goals (go_meet; exact ⟨rfl, rfl, vb (by simp [letr]; omega), rfl⟩)
      case rest =>
        obtain ⟨rfl, rfl, rfl, rfl⟩ := hcut
        generalize hL : letr v = L
        have HL := Box.mk hL
        clear hL
        obtain ⟨z, hz⟩ : ∃ z, ((k : Int) == 0) = z := ⟨_, rfl⟩
        have HE : Box (badc k v = (!L && (z || (v != 95 && (decide (v < 48) || decide (57 < v)))))) := ⟨by
          rw [← hz, ← HL.out]; unfold badc
          have : ((k : Int) == 0) = (k == 0) := by rw [Bool.eq_iff_iff]; simp
          rw [this]⟩
        go_upto_region 5 with fail
        go_cut [4, 45] (fun t4 t45 w' => t4 = .int .u8 v ∧ t45 = .bool (badc k v) ∧ w' = wc)
        case first =>
          cases L <;> cases z
          all_goals go_wp2
          all_goals (go_meet; exact ⟨vi (by omega), vb (by rw [HE.out]; simp <;> omega), rfl⟩)
        case rest =>
          obtain ⟨rfl, rfl, rfl⟩ := hcut
          clear hz
          generalize hL : badc k v = L
          have HL := Box.mk hL
          clear hL
          cases L
          · go_wp2
            go_round
            case rel =>
              refine ⟨k + 1, by omega, by go_num, ⟨fun j hj => ?_⟩⟩
              rcases Nat.lt_or_ge j k with h | h
              · exact HK.out j h
              · obtain rfl : j = k := by omega
                rw [HV.out]
                exact HL.out
            case measure => simp [intOf]; omega
          · go_wp2
            go_ret
            refine ⟨rb ?_, Hb.out⟩
            rw [nameOk_false hlt (by rw [HV.out]; exact HL.out)]
    · obtain rfl : k = s.size := by omega
      go_wp2
      all_goals
        go_ret
        refine ⟨rb ?_, Hb.out⟩
        rw [nameOk_end HK.out]
        simp
        omega
end Go.Proofs.Ytchhjldopecliaa
namespace Go.Proofs.Ytchhjldopecliaa
open Go.RowKit

def idxF {α : Type} (p : α → Bool) : List α → Nat → Int
  | [], _ => -1
  | x :: r, i => if p x then (i : Int) else idxF p r (i + 1)
theorem idxF_any {α : Type} (p : α → Bool) : ∀ (l : List α) (i : Nat), decide (0 ≤ idxF p l i) = l.any p
  | [], i => by simp [idxF]
  | x :: r, i => by
    unfold idxF
    cases h : p x
    · simp [h, idxF_any p r (i + 1)]
    · simp [h]
theorem idxF_drop {α : Type} {p : α → Bool} {xs : List α} {k : Nat} {x : α} (hx : xs[k]? = some x) (i : Nat) : idxF p (xs.drop k) i = if p x then (i : Int) else idxF p (xs.drop (k + 1)) (i + 1) := by
  obtain ⟨hk, rfl⟩ := List.getElem?_eq_some_iff.1 hx
  rw [List.drop_eq_getElem_cons hk, idxF]
theorem idxF_end {α : Type} {p : α → Bool} {xs : List α} {k i : Nat} (hk : xs.length ≤ k) : idxF p (xs.drop k) i = -1 := by
  rw [List.drop_of_length_le hk]; rfl

set_option maxRecDepth 100000 in
set_option maxHeartbeats 1000000 in
theorem c_IndexFunc_str (p : Str → Bool) (g : Nat) (lb : Array Value) (eg : ∀ args w, (callFunc g args).run Try.prog w = .ok (.enter g args) w)
    (A : Option Addr) (n c : Nat) (xs : List (Str)) (w : World) (h : SlR w 1 RStr A n c xs)
    (hp : ∀ x v W, x ∈ xs → RStr W x [v] → Below w.heap.size w W → Calls Try.prog g (#[v] ++ lb) W fun e w' => e = .returned (.bool (p x)) ∧ Below W.heap.size W w') :
    Calls Try.prog 78 #[.slice A n c, .func (.func g) #[] lb] w fun e w' => e = .returned (.int .i64 (idxF p xs 0)) ∧ Below w.heap.size w w' := by
  have hlim := h.lim
  have H := Box.mk h
  have HP := Box.mk hp
  clear h hp
  go_enter Try.func78, Try.ntmps78
  go_wp2_with fail
  go_loopw [5, 8] (fun _ i wr => ∃ k : Nat, k ≤ n ∧ i = .int .i64 k ∧ Box (Below w.heap.size w wr) ∧ Box (idxF p xs 0 = idxF p (xs.drop k) k)) (fun _ i _ => n - (intOf i).toNat)
  case atStart => exact ⟨0, Nat.zero_le _, rfl, ⟨Below.refl _ _⟩, ⟨by simp⟩⟩
  case round =>
    obtain ⟨k, hk, rfl, HB, HI⟩ := hrel
    by_cases hlt : k < n
    · obtain ⟨b, off, x, rfl, hb, hx, hs, hc⟩ := (H.out.below mono_str HB.out).str_at k hlt
      have HX := Box.mk hx
      have HS := Box.mk hs
      have HM := Box.mk (List.mem_iff_getElem?.2 ⟨k, hx⟩)
      clear hx hs
      go_wp2_with fail
      refine (HP.out x (.string x) wr HM.out ⟨rfl, HS.out⟩ HB.out).mono ?_
      rintro e w1 ⟨rfl, hb1⟩
      have HB1 := Box.mk (below_tr HB.out HB.out.size hb1)
      clear hb1
      generalize hpx : p x = P at *
      have HPX := Box.mk hpx
      clear hpx
      cases P
      · go_wp2_with fail
        go_roundw
        case rel => exact ⟨k + 1, by omega, by go_num, HB1, ⟨by rw [HI.out, idxF_drop HX.out, HPX.out]; rfl⟩⟩
        case measure => simp [intOf]; omega
      · go_wp2_with fail
        go_ret
        exact ⟨ret_int (by rw [HI.out, idxF_drop HX.out, HPX.out]; rfl), HB1.out⟩
    · go_wp2_with fail
      go_ret
      obtain rfl : k = n := by omega
      exact ⟨ret_int (by rw [HI.out, idxF_end (by rw [H.out.len]; exact Nat.le_refl _)]), HB.out⟩

set_option maxHeartbeats 1000000 in
theorem c_ContainsFunc_str (p : Str → Bool) (g : Nat) (lb : Array Value) (eg : ∀ args w, (callFunc g args).run Try.prog w = .ok (.enter g args) w)
    (A : Option Addr) (n c : Nat) (xs : List (Str)) (w : World) (h : SlR w 1 RStr A n c xs)
    (hp : ∀ x v W, x ∈ xs → RStr W x [v] → Below w.heap.size w W → Calls Try.prog g (#[v] ++ lb) W fun e w' => e = .returned (.bool (p x)) ∧ Below W.heap.size W w') :
    Calls Try.prog 80 #[.slice A n c, .func (.func g) #[] lb] w fun e w' => e = .returned (.bool (xs.any p)) ∧ Below w.heap.size w w' := by
  have C := Box.mk (c_IndexFunc_str p g lb eg A n c xs w h hp)
  have E := Box.mk (idxF_any p xs 0)
  clear h hp eg
  generalize idxF p xs 0 = z at C E
  generalize xs.any p = q at E ⊢
  go_enter Try.func80, Try.ntmps80
  go_wp2_with fail
  refine C.out.mono ?_
  rintro e w1 ⟨rfl, hb1⟩
  go_wp2_with fail
  go_ret
  exact ⟨rb (by rw [← E.out]), hb1⟩

set_option maxRecDepth 100000 in
set_option maxHeartbeats 1000000 in
theorem c_IndexFunc_int (p : Int → Bool) (g : Nat) (lb : Array Value) (eg : ∀ args w, (callFunc g args).run Try.prog w = .ok (.enter g args) w)
    (A : Option Addr) (n c : Nat) (xs : List (Int)) (w : World) (h : SlR w 1 RInt A n c xs)
    (hp : ∀ x v W, x ∈ xs → RInt W x [v] → Below w.heap.size w W → Calls Try.prog g (#[v] ++ lb) W fun e w' => e = .returned (.bool (p x)) ∧ Below W.heap.size W w') :
    Calls Try.prog 112 #[.slice A n c, .func (.func g) #[] lb] w fun e w' => e = .returned (.int .i64 (idxF p xs 0)) ∧ Below w.heap.size w w' := by
  have hlim := h.lim
  have H := Box.mk h
  have HP := Box.mk hp
  clear h hp
  go_enter Try.func112, Try.ntmps112
  go_wp2_with fail
  go_loopw [5, 8] (fun _ i wr => ∃ k : Nat, k ≤ n ∧ i = .int .i64 k ∧ Box (Below w.heap.size w wr) ∧ Box (idxF p xs 0 = idxF p (xs.drop k) k)) (fun _ i _ => n - (intOf i).toNat)
  case atStart => exact ⟨0, Nat.zero_le _, rfl, ⟨Below.refl _ _⟩, ⟨by simp⟩⟩
  case round =>
    obtain ⟨k, hk, rfl, HB, HI⟩ := hrel
    by_cases hlt : k < n
    · obtain ⟨b, off, x, rfl, hb, hx, hc⟩ := (H.out.below mono_int HB.out).int_at k hlt
      have hs : True := trivial
      have HX := Box.mk hx
      have HS := Box.mk hs
      have HM := Box.mk (List.mem_iff_getElem?.2 ⟨k, hx⟩)
      clear hx hs
      go_wp2_with fail
      refine (HP.out x (.int .i64 x) wr HM.out rfl HB.out).mono ?_
      rintro e w1 ⟨rfl, hb1⟩
      have HB1 := Box.mk (below_tr HB.out HB.out.size hb1)
      clear hb1
      generalize hpx : p x = P at *
      have HPX := Box.mk hpx
      clear hpx
      cases P
      · go_wp2_with fail
        go_roundw
        case rel => exact ⟨k + 1, by omega, by go_num, HB1, ⟨by rw [HI.out, idxF_drop HX.out, HPX.out]; rfl⟩⟩
        case measure => simp [intOf]; omega
      · go_wp2_with fail
        go_ret
        exact ⟨ret_int (by rw [HI.out, idxF_drop HX.out, HPX.out]; rfl), HB1.out⟩
    · go_wp2_with fail
      go_ret
      obtain rfl : k = n := by omega
      exact ⟨ret_int (by rw [HI.out, idxF_end (by rw [H.out.len]; exact Nat.le_refl _)]), HB.out⟩

set_option maxHeartbeats 1000000 in
theorem c_ContainsFunc_int (p : Int → Bool) (g : Nat) (lb : Array Value) (eg : ∀ args w, (callFunc g args).run Try.prog w = .ok (.enter g args) w)
    (A : Option Addr) (n c : Nat) (xs : List (Int)) (w : World) (h : SlR w 1 RInt A n c xs)
    (hp : ∀ x v W, x ∈ xs → RInt W x [v] → Below w.heap.size w W → Calls Try.prog g (#[v] ++ lb) W fun e w' => e = .returned (.bool (p x)) ∧ Below W.heap.size W w') :
    Calls Try.prog 95 #[.slice A n c, .func (.func g) #[] lb] w fun e w' => e = .returned (.bool (xs.any p)) ∧ Below w.heap.size w w' := by
  have C := Box.mk (c_IndexFunc_int p g lb eg A n c xs w h hp)
  have E := Box.mk (idxF_any p xs 0)
  clear h hp eg
  generalize idxF p xs 0 = z at C E
  generalize xs.any p = q at E ⊢
  go_enter Try.func95, Try.ntmps95
  go_wp2_with fail
  refine C.out.mono ?_
  rintro e w1 ⟨rfl, hb1⟩
  go_wp2_with fail
  go_ret
  exact ⟨rb (by rw [← E.out]), hb1⟩

set_option maxRecDepth 100000 in
set_option maxHeartbeats 1000000 in
theorem c_IndexFunc_strs (p : List Str → Bool) (g : Nat) (lb : Array Value) (eg : ∀ args w, (callFunc g args).run Try.prog w = .ok (.enter g args) w)
    (A : Option Addr) (n c : Nat) (xs : List (List Str)) (w : World) (h : SlR w 1 (RSl 1 RStr) A n c xs)
    (hp : ∀ x v W, x ∈ xs → (RSl 1 RStr) W x [v] → Below w.heap.size w W → Calls Try.prog g (#[v] ++ lb) W fun e w' => e = .returned (.bool (p x)) ∧ Below W.heap.size W w') :
    Calls Try.prog 111 #[.slice A n c, .func (.func g) #[] lb] w fun e w' => e = .returned (.int .i64 (idxF p xs 0)) ∧ Below w.heap.size w w' := by
  have hlim := h.lim
  have H := Box.mk h
  have HP := Box.mk hp
  clear h hp
  go_enter Try.func111, Try.ntmps111
  go_wp2_with fail
  go_loopw [5, 8] (fun _ i wr => ∃ k : Nat, k ≤ n ∧ i = .int .i64 k ∧ Box (Below w.heap.size w wr) ∧ Box (idxF p xs 0 = idxF p (xs.drop k) k)) (fun _ i _ => n - (intOf i).toNat)
  case atStart => exact ⟨0, Nat.zero_le _, rfl, ⟨Below.refl _ _⟩, ⟨by simp⟩⟩
  case round =>
    obtain ⟨k, hk, rfl, HB, HI⟩ := hrel
    by_cases hlt : k < n
    · obtain ⟨b, off, x, A1, n1, c1, rfl, hb, hx, hc, hs⟩ := (H.out.below (mono_sl mono_str) HB.out).sl_at k hlt
      have HX := Box.mk hx
      have HS := Box.mk hs
      have HM := Box.mk (List.mem_iff_getElem?.2 ⟨k, hx⟩)
      clear hx hs
      go_wp2_with fail
      refine (HP.out x (.slice A1 n1 c1) wr HM.out ⟨_, _, _, rfl, HS.out⟩ HB.out).mono ?_
      rintro e w1 ⟨rfl, hb1⟩
      have HB1 := Box.mk (below_tr HB.out HB.out.size hb1)
      clear hb1
      generalize hpx : p x = P at *
      have HPX := Box.mk hpx
      clear hpx
      cases P
      · go_wp2_with fail
        go_roundw
        case rel => exact ⟨k + 1, by omega, by go_num, HB1, ⟨by rw [HI.out, idxF_drop HX.out, HPX.out]; rfl⟩⟩
        case measure => simp [intOf]; omega
      · go_wp2_with fail
        go_ret
        exact ⟨ret_int (by rw [HI.out, idxF_drop HX.out, HPX.out]; rfl), HB1.out⟩
    · go_wp2_with fail
      go_ret
      obtain rfl : k = n := by omega
      exact ⟨ret_int (by rw [HI.out, idxF_end (by rw [H.out.len]; exact Nat.le_refl _)]), HB.out⟩

set_option maxHeartbeats 1000000 in
theorem c_ContainsFunc_strs (p : List Str → Bool) (g : Nat) (lb : Array Value) (eg : ∀ args w, (callFunc g args).run Try.prog w = .ok (.enter g args) w)
    (A : Option Addr) (n c : Nat) (xs : List (List Str)) (w : World) (h : SlR w 1 (RSl 1 RStr) A n c xs)
    (hp : ∀ x v W, x ∈ xs → (RSl 1 RStr) W x [v] → Below w.heap.size w W → Calls Try.prog g (#[v] ++ lb) W fun e w' => e = .returned (.bool (p x)) ∧ Below W.heap.size W w') :
    Calls Try.prog 91 #[.slice A n c, .func (.func g) #[] lb] w fun e w' => e = .returned (.bool (xs.any p)) ∧ Below w.heap.size w w' := by
  have C := Box.mk (c_IndexFunc_strs p g lb eg A n c xs w h hp)
  have E := Box.mk (idxF_any p xs 0)
  clear h hp eg
  generalize idxF p xs 0 = z at C E
  generalize xs.any p = q at E ⊢
  go_enter Try.func91, Try.ntmps91
  go_wp2_with fail
  refine C.out.mono ?_
  rintro e w1 ⟨rfl, hb1⟩
  go_wp2_with fail
  go_ret
  exact ⟨rb (by rw [← E.out]), hb1⟩
end Go.Proofs.Ytchhjldopecliaa
namespace Go.Proofs.Ytchhjldopecliaa
open Go.RowKit

theorem c_large1 (A : Option Addr) (n c : Nat) (w : World) :
    Calls Try.prog 92 #[.slice A n c] w fun e w' => e = .returned (.bool (decide (100 < n))) ∧ Below w.heap.size w w' := by
  go_enter Try.func92, Try.ntmps92
  go_wp2_with fail
  go_ret
  exact ⟨rb (by simp <;> omega), Below.refl _ _⟩
theorem c_right1 (s : Str) (w : World) (hs : s.size ≤ LIM) :
    Calls Try.prog 93 #[.string s] w fun e w' => e = .returned (.bool (!nameOk s)) ∧ Below w.heap.size w w' := by
  have C := Box.mk (c_isName s w hs)
  clear hs
  generalize nameOk s = q at C ⊢
  go_enter Try.func93, Try.ntmps93
  go_wp2_with fail
  refine C.out.mono ?_
  rintro e w1 ⟨rfl, hb1⟩
  go_wp2_with fail
  go_ret
  exact ⟨rfl, hb1⟩
def badSz (x : Int) : Bool := decide (x < 1) || decide (10000 < x)
theorem c_right2 (x : Int) (w : World) :
    Calls Try.prog 96 #[.int .i64 x] w fun e w' => e = .returned (.bool (badSz x)) ∧ Below w.heap.size w w' := by
  by_cases h : x < 1
  all_goals
    go_enter Try.func96, Try.ntmps96
    go_wp2_with fail
    go_ret
    exact ⟨rb (by simp [badSz] <;> omega), Below.refl _ _⟩

theorem c_heavy (A : Option Addr) (n c : Nat) (xs : List Str) (w : World) (h : SlR w 1 RStr A n c xs) :
    Calls Try.prog 15 #[.slice A n c] w fun e w' => (∃ z, e = .returned (.int .i64 z)) ∧ w = w' := by
  have hlim := h.lim
  have H := Box.mk h
  clear h
  go_enter Try.func15, Try.ntmps15
  go_wp2_with fail
  go_loop [3, 4] (fun t i => ∃ k : Nat, k ≤ n ∧ i = .int .i64 k ∧ ∃ z, t = .int .i64 z) (fun _ i => n - (intOf i).toNat)
  case atStart => exact ⟨0, Nat.zero_le _, rfl, _, rfl⟩
  case round =>
    obtain ⟨k, hk, rfl, z, rfl⟩ := hrel
    by_cases hlt : k < n
    · obtain ⟨b, off, x, rfl, hb, hx, hs, hc⟩ := H.out.str_at k hlt
      clear hx hs
      go_wp2_with fail
      go_round
      case rel => exact ⟨k + 1, by omega, by go_num, _, rfl⟩
      case measure => simp [intOf]; omega
    · go_wp2_with fail
      go_ret
      exact ⟨⟨_, rfl⟩, rfl⟩
end Go.Proofs.Ytchhjldopecliaa
namespace Go.Proofs.Ytchhjldopecliaa
open Go.RowKit

/-! ### the first of Validate's tests -/
def sumL (ms : List Md) : Nat := (ms.map fun m => m.pr.length).sum
def longC (m : Md) : Bool := m.cl.any fun l => decide (100 < l.length)
def largeB (ms : List Md) : Bool := ms.any longC || (decide (32 < ms.length) || decide (100 < sumL ms))

theorem sumL_take {ms : List Md} {k : Nat} {m : Md} (h : ms[k]? = some m) : sumL (ms.take (k + 1)) = sumL (ms.take k) + m.pr.length := by
  unfold sumL
  rw [List.take_add_one, h]
  simp
theorem sumL_le {ms : List Md} {k : Nat} (_hk : k ≤ 32) (h : ∀ m ∈ ms, m.pr.length ≤ 140737488351232) : sumL (ms.take k) ≤ k * 140737488351232 := by
  have : ∀ l : List Md, (∀ m ∈ l, m.pr.length ≤ 140737488351232) → sumL l ≤ l.length * 140737488351232 := by
    intro l
    induction l with
    | nil => intro _; simp [sumL]
    | cons x r ih =>
      intro hl
      have h1 := ih (fun m hm => hl m (List.mem_cons_of_mem _ hm))
      have h2 := hl x (List.mem_cons_self ..)
      simp only [sumL, List.map_cons, List.sum_cons, List.length_cons] at h1 ⊢
      omega
  have h1 := this (ms.take k) (fun m hm => h m (List.mem_of_mem_take hm))
  have h2 : (ms.take k).length ≤ k := List.length_take_le ..
  exact Nat.le_trans h1 (Nat.mul_le_mul_right _ h2)

theorem anyTake_succ {α : Type} {p : α → Bool} {xs : List α} {k : Nat} {x : α} (hx : xs[k]? = some x) (h : (xs.take k).any p = false) (hp : p x = false) : (xs.take (k + 1)).any p = false := by
  rw [List.take_add_one, hx]
  simp [List.any_append, h, hp]
theorem any_of_at {α : Type} {p : α → Bool} {xs : List α} {k : Nat} {x : α} (hx : xs[k]? = some x) (hp : p x = true) : xs.any p = true :=
  List.any_eq_true.2 ⟨x, List.mem_iff_getElem?.2 ⟨k, hx⟩, hp⟩

theorem ent_large1 : ∀ args w, (callFunc 92 args).run Try.prog w = .ok (.enter 92 args) w := enters_of Try.func92 (by kernel_rfl) rfl

set_option maxRecDepth 100000 in
set_option maxHeartbeats 1000000 in
theorem c_isLarge (A : Option Addr) (n c : Nat) (ms : List Md) (w : World) (h : SlR w 5 RMd A n c ms) :
    Calls Try.prog 48 #[.slice A n c] w fun e w' => e = .returned (.bool (largeB ms)) ∧ Below w.heap.size w w' := by
  have hlim := h.lim
  have HLE : Box (∀ m ∈ ms, m.pr.length ≤ 140737488351232) := ⟨fun m hm => by
    obtain ⟨i, hi⟩ := List.mem_iff_getElem?.1 hm
    have hlt : i < n := by rw [← h.len]; exact (List.getElem?_eq_some_iff.1 hi).1
    obtain ⟨b, off, m', A1, n1, c1, A2, n2, c2, A3, n3, c3, _, _, hm', hM, _⟩ := h.md_at i hlt
    rw [hi] at hm'
    injection hm' with hm'
    subst hm'
    have := hM.pr.lim
    rw [hM.pr.len]
    exact this⟩
  have H := Box.mk h
  clear h
  go_enter Try.func48, Try.ntmps48
  go_wp2_with fail
  go_loopw [2, 3, 5, 8] (fun _ t _ i wr => ∃ k : Nat, k ≤ n ∧ i = .int .i64 k ∧ (∃ z, t = .int .i64 z ∧ Box (k ≤ 32 → z = sumL (ms.take k))) ∧ Box (Below w.heap.size w wr) ∧ Box ((ms.take k).any longC = false)) (fun _ _ _ i _ => n - (intOf i).toNat)
  case atStart => exact ⟨0, Nat.zero_le _, rfl, ⟨_, rfl, ⟨fun _ => by simp [sumL]⟩⟩, ⟨Below.refl _ _⟩, ⟨by simp⟩⟩
  case round =>
    obtain ⟨k, hk, rfl, ⟨z, rfl, HZ⟩, HB, HA⟩ := hrel
    by_cases hlt : k < n
    · obtain ⟨b, off, m, A1, n1, c1, A2, n2, c2, A3, n3, c3, rfl, hb, hm, hM, h0, h1, h2, h3, h4⟩ := (H.out.below mono_md HB.out).md_at k hlt
      have HM := Box.mk hM
      have HX := Box.mk hm
      clear hM hm
      have hn1 := HM.out.pr.lim
      have HN1 := Box.mk HM.out.pr.len
      go_wp2_with fail
      refine (c_ContainsFunc_strs (fun l => decide (100 < l.length)) 92 #[] ent_large1 A3 n3 c3 m.cl _ (HM.out.cl.below (mono_sl mono_str) (bel_alloc _ _)) ?_).mono ?_
      · rintro x v W _ ⟨A', n', c', hv, hx⟩ _
        obtain rfl : v = .slice A' n' c' := by simpa using hv
        have := c_large1 A' n' c' W
        rw [← hx.len] at this
        rw [← hx.len]
        exact this
      rintro e w1 ⟨rfl, hb1⟩
      have HB1 := Box.mk (below_tr (bel_alloc2 HB.out _) (by simp; have := HB.out.size; omega) hb1)
      clear hb1
      generalize hpx : (m.cl.any fun l => decide (100 < l.length)) = P at *
      have HPX : Box (longC m = P) := ⟨hpx⟩
      clear hpx
      cases P
      · go_wp2_with fail
        go_roundw
        case rel =>
          refine ⟨k + 1, by omega, by go_num, ⟨_, rfl, ⟨fun h32 => ?_⟩⟩, HB1, ⟨anyTake_succ HX.out HA.out HPX.out⟩⟩
          have e1 := HZ.out (by omega)
          have e2 := sumL_le (ms := ms) (k := k) (by omega) HLE.out
          rw [sumL_take HX.out, HN1.out, e1]
          unfold wrap64
          omega
        case measure => simp [intOf]; omega
      · go_wp2_with fail
        go_ret
        refine ⟨rb ?_, HB1.out⟩
        simp [largeB, any_of_at HX.out HPX.out]
    · obtain rfl : k = n := by omega
      by_cases h32 : 32 < k
      · go_wp2_with fail
        go_ret
        refine ⟨rb ?_, HB.out⟩
        simp [largeB, H.out.len, h32]
      · have e1 := HZ.out (by omega)
        have E1 := Box.mk e1
        clear e1
        go_wp2_with fail
        go_ret
        refine ⟨rb ?_, HB.out⟩
        have e3 : ms.take k = ms := List.take_of_length_le (by rw [H.out.len]; exact Nat.le_refl _)
        have e2 := HA.out
        have e4 := E1.out
        rw [e3] at e2 e4
        simp only [largeB, e2, H.out.len, e4]
        simp
        omega
end Go.Proofs.Ytchhjldopecliaa
namespace Go.Proofs.Ytchhjldopecliaa
open Go.RowKit

def badN (s : Str) : Bool := !nameOk s
def rightB (m : Md) : Bool := !(m.cl.any fun l => l.any badN) && (nameOk m.nm && (decide (0 ≤ m.ov) && (decide (m.ov ≤ 15) && (!(m.pr.any badN) && !(m.sz.any badSz)))))

theorem ent_right1 : ∀ args w, (callFunc 93 args).run Try.prog w = .ok (.enter 93 args) w := enters_of Try.func93 (by kernel_rfl) rfl
theorem ent_right2 : ∀ args w, (callFunc 96 args).run Try.prog w = .ok (.enter 96 args) w := enters_of Try.func96 (by kernel_rfl) rfl

theorem c_badStrs (A : Option Addr) (n c : Nat) (xs : List Str) (w : World) (h : SlR w 1 RStr A n c xs) :
    Calls Try.prog 80 #[.slice A n c, .func (.func 93) #[] #[]] w fun e w' => e = .returned (.bool (xs.any badN)) ∧ Below w.heap.size w w' := by
  refine c_ContainsFunc_str badN _ #[] ent_right1 A n c xs w h ?_
  rintro x v W _ ⟨hv, hx⟩ _
  obtain rfl : v = .string x := by simpa using hv
  exact c_right1 x W hx
theorem c_badInts (A : Option Addr) (n c : Nat) (xs : List Int) (w : World) (h : SlR w 1 RInt A n c xs) :
    Calls Try.prog 95 #[.slice A n c, .func (.func 96) #[] #[]] w fun e w' => e = .returned (.bool (xs.any badSz)) ∧ Below w.heap.size w w' := by
  refine c_ContainsFunc_int badSz _ #[] ent_right2 A n c xs w h ?_
  rintro x v W _ hv _
  obtain rfl : v = .int .i64 x := by
    have hv : [v] = [Value.int .i64 x] := hv
    simpa using hv
  exact c_right2 x W

set_option maxRecDepth 100000 in
set_option maxHeartbeats 2000000 in
theorem c_isRight (m : Md) (A1 : Option Addr) (n1 c1 : Nat) (A2 : Option Addr) (n2 c2 : Nat) (A3 : Option Addr) (n3 c3 : Nat) (w : World) (h : MdIs w m A1 n1 c1 A2 n2 c2 A3 n3 c3) :
    Calls Try.prog 49 #[.agg #[.string m.nm, .int .i64 m.ov, .slice A1 n1 c1, .slice A2 n2 c2, .slice A3 n3 c3]] w fun e w' => e = .returned (.bool (rightB m)) ∧ Below w.heap.size w w' := by
  have hlim := h.cl.lim
  have H := Box.mk (h.below (bel_alloc w (.cells #[.string m.nm, .int .i64 m.ov, .slice A1 n1 c1, .slice A2 n2 c2, .slice A3 n3 c3] 33)))
  clear h
  go_enter Try.func49, Try.ntmps49
  go_wp2_with fail
  generalize hW : w.alloc (.cells #[.string m.nm, .int .i64 m.ov, .slice A1 n1 c1, .slice A2 n2 c2, .slice A3 n3 c3] 33) = W at H
  have HW : Box (Below w.heap.size w W ∧ W.heap.size = w.heap.size + 1) := ⟨hW ▸ ⟨bel_alloc _ _, by simp⟩⟩
  have d0 : W.cell? ⟨w.heap.size, 0, none⟩ = some (.string m.nm) := by rw [← hW]; simp
  have d1 : W.cell? ⟨w.heap.size, 1, none⟩ = some (.int .i64 m.ov) := by rw [← hW]; simp
  have d2 : W.cell? ⟨w.heap.size, 2, none⟩ = some (.slice A1 n1 c1) := by rw [← hW]; simp
  have d3 : W.cell? ⟨w.heap.size, 3, none⟩ = some (.slice A2 n2 c2) := by rw [← hW]; simp
  clear hW
  have D : Box (w.heap.size < W.heap.size) := ⟨by have := HW.out.2; omega⟩
  go_loopw [5, 9] (fun _ i wr => ∃ k : Nat, k ≤ n3 ∧ i = .int .i64 k ∧ Box (Below W.heap.size W wr) ∧ Box ((m.cl.take k).any (fun l => l.any badN) = false)) (fun _ i _ => n3 - (intOf i).toNat)
  case atStart => exact ⟨0, Nat.zero_le _, rfl, ⟨Below.refl _ _⟩, ⟨by simp⟩⟩
  case round =>
    obtain ⟨k, hk, rfl, HB, HA⟩ := hrel
    by_cases hlt : k < n3
    · obtain ⟨b, off, x, A', n', c', rfl, hb, hx, hc, hs⟩ := (H.out.cl.below (mono_sl mono_str) HB.out).sl_at k hlt
      have HX := Box.mk hx
      have HS := Box.mk hs
      clear hx hs d0 d1 d2 d3
      go_wp2_with fail
      refine (c_badStrs A' n' c' x wr HS.out).mono ?_
      rintro e w1 ⟨rfl, hb1⟩
      have HB1 := Box.mk (below_tr HB.out HB.out.size hb1)
      clear hb1
      generalize hpx : x.any badN = P at *
      have HPX := Box.mk hpx
      clear hpx
      cases P
      · go_wp2_with fail
        go_roundw
        case rel => exact ⟨k + 1, by omega, by go_num, HB1, ⟨anyTake_succ HX.out HA.out HPX.out⟩⟩
        case measure => simp [intOf]; omega
      · go_wp2_with fail
        go_ret
        refine ⟨rb ?_, below_tr HW.out.1 HW.out.1.size HB1.out⟩
        simp [rightB, any_of_at (p := fun l : List Str => l.any badN) HX.out HPX.out]
    · obtain rfl : k = n3 := by omega
      have e3 : m.cl.take k = m.cl := List.take_of_length_le (by rw [H.out.cl.len]; exact Nat.le_refl _)
      have HA' : Box (m.cl.any (fun l => l.any badN) = false) := ⟨by have := HA.out; rwa [e3] at this⟩
      clear e3 HA
      replace d0 := cellk HB.out D.out d0
      replace d1 := cellk HB.out D.out d1
      replace d2 := cellk HB.out D.out d2
      replace d3 := cellk HB.out D.out d3
      go_wp2_with fail
      refine (c_isName m.nm wr H.out.nm).mono ?_
      rintro e w1 ⟨rfl, hb1⟩
      have D1 : Box (w.heap.size < wr.heap.size) := ⟨by have := HB.out.size; have := D.out; omega⟩
      replace d1 := cellk hb1 D1.out d1
      replace d2 := cellk hb1 D1.out d2
      replace d3 := cellk hb1 D1.out d3
      have HB1 := Box.mk (below_tr HB.out HB.out.size hb1)
      have D2 : Box (w.heap.size < w1.heap.size) := ⟨by have := hb1.size; have := D1.out; omega⟩
      clear hb1 d0
      generalize hq : nameOk m.nm = Q at *
      have HQ := Box.mk hq
      clear hq
      have HBW := Box.mk (below_tr HW.out.1 HW.out.1.size HB1.out)
      cases Q
      · go_wp2_with fail
        go_ret
        exact ⟨rb (by simp [rightB, HA'.out, HQ.out]), HBW.out⟩
      · by_cases h0 : 0 ≤ m.ov
        · by_cases h15 : m.ov ≤ 15
          · go_wp2_with fail
            refine (c_badStrs A1 n1 c1 m.pr w1 (H.out.pr.below mono_str HB1.out)).mono ?_
            rintro e w2 ⟨rfl, hb2⟩
            replace d3 := cellk hb2 D2.out d3
            have HB2 := Box.mk (below_tr HB1.out HB1.out.size hb2)
            have HBW2 := Box.mk (below_tr HBW.out HBW.out.size hb2)
            clear hb2 d1 d2
            generalize hq : m.pr.any badN = Q at *
            have HQ2 := Box.mk hq
            clear hq
            cases Q
            · go_wp2_with fail
              refine (c_badInts A2 n2 c2 m.sz w2 (H.out.sz.below mono_int HB2.out)).mono ?_
              rintro e w3 ⟨rfl, hb3⟩
              have HBW3 := Box.mk (below_tr HBW2.out HBW2.out.size hb3)
              clear hb3
              generalize hq : m.sz.any badSz = Q at *
              have HQ3 := Box.mk hq
              clear hq
              go_wp2_with fail
              go_ret
              exact ⟨rb (by simp [rightB, HA'.out, HQ.out, HQ2.out, HQ3.out, h0, h15]), HBW3.out⟩
            · go_wp2_with fail
              go_ret
              exact ⟨rb (by simp [rightB, HA'.out, HQ.out, HQ2.out, h0, h15]), HBW2.out⟩
          · have HF : Box (rightB m = false) := ⟨by simp [rightB, HA'.out, h15]⟩
            go_wp2_with fail
            go_ret
            exact ⟨rb (by simp [HF.out]), HBW.out⟩
        · have HF : Box (rightB m = false) := ⟨by simp [rightB, HA'.out, h0]⟩
          go_wp2_with fail
          go_ret
          exact ⟨rb (by simp [HF.out]), HBW.out⟩
end Go.Proofs.Ytchhjldopecliaa
namespace Go.Proofs.Ytchhjldopecliaa
open Go.RowKit

set_option maxRecDepth 100000 in
set_option maxHeartbeats 1000000 in
theorem c_Index (s : Str) (A : Option Addr) (n c : Nat) (xs : List Str) (w : World) (h : SlR w 1 RStr A n c xs) :
    Calls Try.prog 90 #[.slice A n c, .string s] w fun e w' => e = .returned (.int .i64 (idxF (fun y => decide (s = y)) xs 0)) ∧ w = w' := by
  have hlim := h.lim
  have H := Box.mk h
  clear h
  go_enter Try.func90, Try.ntmps90
  go_wp2_with fail
  go_loop [5, 8] (fun _ i => ∃ k : Nat, k ≤ n ∧ i = .int .i64 k ∧ Box (idxF (fun y => decide (s = y)) xs 0 = idxF (fun y => decide (s = y)) (xs.drop k) k)) (fun _ i => n - (intOf i).toNat)
  case atStart => exact ⟨0, Nat.zero_le _, rfl, ⟨by simp⟩⟩
  case round =>
    obtain ⟨k, hk, rfl, HI⟩ := hrel
    by_cases hlt : k < n
    · obtain ⟨b, off, x, rfl, hb, hx, hs, hc⟩ := H.out.str_at k hlt
      have HX := Box.mk hx
      clear hx hs
      have hq : (ByteArray.toList s == ByteArray.toList x) = decide (s = x) := tleq s x
      generalize hpx : decide (s = x) = P at hq
      have HPX := Box.mk hpx
      clear hpx
      cases P
      · go_wp2_with fail
        go_round
        case rel => exact ⟨k + 1, by omega, by go_num, ⟨by rw [HI.out, idxF_drop HX.out, HPX.out]; rfl⟩⟩
        case measure => simp [intOf]; omega
      · go_wp2_with fail
        go_ret
        exact ⟨ret_int (by rw [HI.out, idxF_drop HX.out, HPX.out]; rfl), rfl⟩
    · go_wp2_with fail
      go_ret
      obtain rfl : k = n := by omega
      exact ⟨ret_int (by rw [HI.out, idxF_end (by rw [H.out.len]; exact Nat.le_refl _)]), rfl⟩

theorem c_Contains (s : Str) (A : Option Addr) (n c : Nat) (xs : List Str) (w : World) (h : SlR w 1 RStr A n c xs) :
    Calls Try.prog 47 #[.slice A n c, .string s] w fun e w' => e = .returned (.bool (decide (s ∈ xs))) ∧ w = w' := by
  have C := Box.mk (c_Index s A n c xs w h)
  have E : Box (decide (0 ≤ idxF (fun y => decide (s = y)) xs 0) = decide (s ∈ xs)) := ⟨by
    rw [idxF_any, Bool.eq_iff_iff]; simp⟩
  clear h
  generalize idxF (fun y => decide (s = y)) xs 0 = z at C E
  generalize decide (s ∈ xs) = q at E ⊢
  go_enter Try.func47, Try.ntmps47
  go_wp2_with fail
  refine C.out.mono ?_
  rintro e w1 ⟨rfl, rfl⟩
  go_wp2_with fail
  go_ret
  exact ⟨rb (by rw [← E.out]), rfl⟩

/-- The room behind an entry. -/
def entR (r : Int × Int) (o : Int) : Int × Int := if o = 0 ∨ o = r.1 then r else (o, r.2 + 1)
set_option maxHeartbeats 1000000 in
theorem c_enter (a l o : Int) (w : World) (hl : 0 ≤ l ∧ l ≤ 100000) :
    Calls Try.prog 46 #[.agg #[.int .i64 a, .int .i64 l], .int .i64 o] w fun e w' =>
      e = .returned (.agg #[.int .i64 (entR (a, l) o).1, .int .i64 (entR (a, l) o).2]) ∧ Below w.heap.size w w' := by
  by_cases h0 : o = 0
  · have hr : entR (a, l) o = (a, l) := by simp [entR, h0]
    rw [hr]
    clear hr
    subst h0
    go_enter Try.func46, Try.ntmps46
    go_wp2_with fail
    exact bodyPost_ret (v := .agg #[.int .i64 a, .int .i64 l]) (by simp [results, Try.results46, go_sem]) rfl ⟨rfl, ((Below.refl _ w).alloc (Nat.le_refl _) _).alloc (by simp) _⟩
  · have d0 : ((o : Int) == 0) = false := by simpa using h0
    by_cases h1 : o = a
    · have hr : entR (a, l) o = (a, l) := by simp [entR, h1]
      rw [hr]
      clear hr
      subst h1
      go_enter Try.func46, Try.ntmps46
      go_wp2_with fail
      exact bodyPost_ret (v := .agg #[.int .i64 o, .int .i64 l]) (by simp [results, Try.results46, go_sem]) rfl ⟨rfl, ((Below.refl _ w).alloc (Nat.le_refl _) _).alloc (by simp) _⟩
    · have d1 : ((o : Int) == a) = false := by simpa using h1
      have hr : entR (a, l) o = (o, l + 1) := by simp [entR, h0, h1]
      rw [hr]
      clear hr h0 h1
      go_enter Try.func46, Try.ntmps46
      go_wp2_with fail
      exact bodyPost_ret (v := .agg #[.int .i64 o, .int .i64 (l + 1)]) (by simp [results, Try.results46, go_sem]) rfl ⟨rfl, ((Below.refl _ w).alloc (Nat.le_refl _) _).alloc (by simp) _⟩

theorem c_sum (A : Option Addr) (n c : Nat) (xs : List Int) (w : World) (h : SlR w 1 RInt A n c xs) (hn : n ≤ 1000000) (hx : ∀ x ∈ xs, 0 ≤ x ∧ x ≤ 10000) :
    Calls Try.prog 98 #[.slice A n c] w fun e w' => e = .returned (.int .i64 xs.sum) ∧ w = w' := by
  have H := Box.mk h
  have HX := Box.mk hx
  have HS : Box (∀ k, k ≤ n → 0 ≤ (xs.take k).sum ∧ (xs.take k).sum ≤ k * 10000) := ⟨by
    have : ∀ l : List Int, (∀ x ∈ l, 0 ≤ x ∧ x ≤ 10000) → 0 ≤ l.sum ∧ l.sum ≤ l.length * 10000 := by
      intro l
      induction l with
      | nil => intro _; simp
      | cons x r ih =>
        intro hl
        have h1 := ih (fun m hm => hl m (List.mem_cons_of_mem _ hm))
        have h2 := hl x (List.mem_cons_self ..)
        simp only [List.sum_cons, List.length_cons]
        omega
    intro k hk
    have h1 := this (xs.take k) (fun m hm => hx m (List.mem_of_mem_take hm))
    have h2 : (xs.take k).length ≤ k := List.length_take_le ..
    omega⟩
  clear h hx
  go_enter Try.func98, Try.ntmps98
  go_wp2_with fail
  go_loop [3, 5, 8] (fun t _ i => ∃ k : Nat, k ≤ n ∧ i = .int .i64 k ∧ t = .int .i64 (xs.take k).sum) (fun _ _ i => n - (intOf i).toNat)
  case atStart => exact ⟨0, Nat.zero_le _, rfl, rfl⟩
  case round =>
    obtain ⟨k, hk, rfl, rfl⟩ := hrel
    by_cases hlt : k < n
    · obtain ⟨b, off, x, rfl, hb, hx, hc⟩ := H.out.int_at k hlt
      have h1 := HS.out k hk
      have h2 := HX.out x (List.mem_iff_getElem?.2 ⟨k, hx⟩)
      have HE : Box ((xs.take (k + 1)).sum = (xs.take k).sum + x) := ⟨by rw [List.take_add_one, hx]; simp⟩
      clear hx
      generalize (xs.take k).sum = z at h1 HE
      go_wp2_with fail
      go_round
      case rel => exact ⟨k + 1, by omega, by go_num, vi (by rw [HE.out])⟩
      case measure => simp [intOf]; omega
    · go_wp2_with fail
      go_ret
      obtain rfl : k = n := by omega
      exact ⟨ret_int (by rw [List.take_of_length_le (by rw [H.out.len]; exact Nat.le_refl _)]), rfl⟩
end Go.Proofs.Ytchhjldopecliaa
namespace Go.Proofs.Ytchhjldopecliaa
open Go.RowKit Go.Sort

theorem enc_bs (s : Str) : encStr (bs s) = .string s := by
  cases s
  simp [encStr, bs]
theorem map_enc_bs (l : List Str) : (l.map bs).map encStr = l.map Value.string := by
  rw [List.map_map]
  exact List.map_congr_left fun a _ => enc_bs a
theorem enc_ob (l : By) : encStr l = .string (ob l) := by rw [← enc_bs, bs_ob]

/-- slices.Sort, of a row of one's own. -/
theorem c_Sort (base : Nat) (v : Value) (xs : List Str) (w : World) (h : w.ownsRow base 9 1 v xs.length (xs.map Value.string)) (hl : xs.length < 4611686018427387904) :
    Calls Try.prog 97 #[v] w fun e w' => e = .returned (.tuple #[]) ∧ w'.ownsRow base 9 1 v (srtS xs).length ((srtS xs).map Value.string) ∧ w.grownBy w' v.ownBlock := by
  rcases h.2 with ⟨rfl, hz⟩ | ⟨g, cap, cur, rfl, hbase, hg, r1, r2, r3, r4⟩
  · obtain rfl : xs = [] := List.eq_nil_of_length_eq_zero hz
    refine (Try.slices_Sort_string_none none 0 w).mono ?_
    rintro e w' ⟨rfl, rfl⟩
    rw [srtS_nil]
    exact ⟨rfl, h, World.grownBy.refl _ _⟩
  · have e1 : cur.toList.take (xs.map bs).length = (xs.map bs).map encStr := by rw [map_enc_bs, List.length_map]; simpa using r4
    have hH : Holds encStr w g 0 (xs.map bs).toArray := holds_of_block hg e1
    have hgl : g < w.heap.size := (Array.getElem?_eq_some_iff.1 hg).1
    have c := Try.slices_Sort_string g 0 cap (xs.map bs) w hH hgl (by simpa using hl)
    rw [List.length_map] at c
    refine c.mono ?_
    rintro e w' ⟨rfl, n, os, rfl⟩
    refine ⟨rfl, ?_, grownBy_sorted _⟩
    have := ownsRow_sorted (base := base) (n := n) (os := os) (ss := xs.map bs) (ts := sortB (xs.map bs)) (cap := cap) (by simp [sortB]) hbase hg (by simpa using r1) r2 r3
    rw [← bs_srtS, map_enc_bs, List.length_map, ← srtS_length] at this
    rw [srtS_length] at this ⊢
    rw [bs_srtS] at this
    exact this

/-- slices.Compact, of a row of one's own that is sorted. -/
theorem c_Compact (base : Nat) (v : Value) (l : List Str) (w : World) (h : w.ownsRow base 9 1 v (srtS l).length ((srtS l).map Value.string)) (hs : ∀ x ∈ l, x.size ≤ LIM) (hl : l.length ≤ 1000000000) :
    Calls Try.prog 85 #[v] w fun e w' => ∃ A c, e = .returned (.slice A (setS l).length c) ∧ SlR w' 1 RStr A (setS l).length c (setS l) ∧ w.grownBy w' v.ownBlock := by
  have hsl := setS_length_le l
  have hlen := srtS_length l
  rcases h.2 with ⟨rfl, hz⟩ | ⟨g, cap, cur, rfl, hbase, hg, r1, r2, r3, r4⟩
  · obtain rfl : l = [] := List.eq_nil_of_length_eq_zero (by omega)
    refine (Try.slices_Compact_string_empty none 0 w).mono ?_
    rintro e w' ⟨rfl, rfl⟩
    rw [setS_nil]
    exact ⟨none, 0, rfl, ⟨rfl, Nat.le_refl _, Nat.zero_le _, fun h => absurd h (Nat.lt_irrefl 0)⟩, World.grownBy.refl _ _⟩
  · have e1 : cur.toList.take ((srtS l).map bs).length = ((srtS l).map bs).map encStr := by rw [map_enc_bs, List.length_map]; simpa using r4
    have hH : Holds encStr w g 0 ((srtS l).map bs).toArray := holds_of_block hg e1
    have hgl : g < w.heap.size := (Array.getElem?_eq_some_iff.1 hg).1
    have c := Try.slices_Compact_string g 0 cap ((srtS l).map bs) w hH (by simp; omega) (by simpa using r1)
    rw [← setS_map, List.length_map, List.length_map] at c
    refine c.mono ?_
    rintro e w' ⟨rfl, q, rfl⟩
    generalize hts : ((setS l).map bs ++ List.replicate ((srtS l).length - (setS l).length) []) = ts
    have htl : ts.length = (srtS l).length := by rw [← hts]; simp; omega
    have hgr : w.grownBy (putRow encStr (Sort.ahead w q) g 0 ts.toArray) (some g) := by
      have := grownBy_sorted (w := w) (g := g) (n := q) (os := #[]) ts.toArray
      rwa [grow_empty] at this
    refine ⟨_, cap, rfl, ⟨rfl, by omega, by rw [LIM_eq]; omega, fun hn => ⟨g, 0, rfl, by have := hgr.size; omega, fun i x hx => ⟨[.string x], rfl, ⟨rfl, hs x (mem_setS.1 (List.mem_iff_getElem?.2 ⟨i, hx⟩))⟩, fun j u hu => ?_⟩⟩⟩, hgr⟩
    match j, hu with
    | 0, hu =>
      have hu : Value.string x = u := by simpa using hu
      subst hu
      have hi : i < (setS l).length := (List.getElem?_eq_some_iff.1 hx).1
      have hb := heap_sorted (n := q) (os := #[]) ts.toArray hg
      rw [grow_empty] at hb
      have htk := take_putCells cur ts (by rw [htl, r3, Nat.mul_one]; omega)
      have h3 : (putCells encStr 0 ts.toArray cur).toList[i]? = some (.string x) := by
        have h4 := congrArg (·[i]?) htk
        simp only [List.getElem?_take_of_lt (show i < ts.length by omega)] at h4
        rw [h4, List.getElem?_map, ← hts, List.getElem?_append_left (by simpa using hi), List.getElem?_map, hx]
        simp [enc_bs]
      simp only [World.cell?, hb]
      rw [Array.getElem?_toList] at h3
      simpa using h3
    | j + 1, hu => simp at hu

/-- slices.Sorted(seq), against whatever iterator. -/
theorem c_Sorted (g : Nat) (lb : Array Value) (eg : ∀ args w, (callFunc g args).run Try.prog w = .ok (.enter g args) w) (S Sp : List Str → Prop) (N : Nat) (hN : N * 16 ≤ 140737488355328) (hSN : ∀ xs, S xs → xs.length ≤ N) (w : World)
    (hseq : ∀ W, Below w.heap.size w W → Go.SeqStopsK Fence.wide 3 Try.prog g lb (fun x : Str => #[Value.string x]) (Kp w.heap.size) S Sp N W) :
    Calls Try.prog 64 #[.func (.func g) #[] lb] w fun e w' => ∃ v xs, e = .returned v ∧ S xs ∧ w'.ownsRow w.heap.size 9 1 v (srtS xs).length ((srtS xs).map Value.string) ∧ Below w.heap.size w w' := by
  have C := Box.mk (callsIn_wide.1 (i_Collect 5 (by omega) g lb eg S Sp N hN w hseq))
  have HSN := Box.mk hSN
  clear hseq eg hSN
  go_enter Try.func64, Try.ntmps64
  go_wp2_with fail
  refine C.out.mono ?_
  rintro e w1 ⟨v, xs, rfl, hS, ho, hb⟩
  have HO := Box.mk ho
  have HB := Box.mk hb
  have HS := Box.mk hS
  clear ho hb hS
  go_wp2_with fail
  refine (c_Sort w.heap.size v xs w1 HO.out (by have := HSN.out xs HS.out; omega)).mono ?_
  rintro e w2 ⟨rfl, ho2, hg⟩
  have HO2 := Box.mk ho2
  have HB2 := Box.mk (below_grown HB.out (Nat.le_refl _) HB.out.size HO.out hg)
  clear ho2 hg
  go_wp2_with fail
  go_ret
  exact ⟨v, xs, rfl, HS.out, HO2.out, HB2.out⟩

theorem ent_Values : ∀ args w, (callFunc 107 args).run Try.prog w = .ok (.enter 107 args) w := enters_of Try.func107 (by kernel_rfl) rfl

/-- slices.Compact(slices.Sorted(slices.Values(l))). -/
theorem c_SortedValues (A : Option Addr) (n c : Nat) (xs : List Str) (w0 w : World) (h : SlR w0 1 RStr A n c xs) (hw : w0.alloc (.cells #[.slice A n c] 23) = w) (hn : n ≤ 1000000000) :
    Calls Try.prog 64 #[.func (.func 107) #[] #[.pointer (some ⟨w0.heap.size, 0, none⟩)]] w fun e w' => ∃ v, e = .returned v ∧ w'.ownsRow w.heap.size 9 1 v (srtS xs).length ((srtS xs).map Value.string) ∧ Below w.heap.size w w' := by
  subst hw
  have h' := h.below mono_str (bel_alloc w0 (.cells #[.slice A n c] 23))
  refine (c_Sorted _ _ ent_Values (fun ys => ys = xs) (fun _ => True) n (by omega) (by rintro ys rfl; rw [h.len]; exact Nat.le_refl _) _ (fun W hW => i_values 3 (by omega) _ w0.heap.size A n c xs _ (by simp) rfl (by simp) h' W hW)).mono ?_
  rintro e w' ⟨v, ys, rfl, rfl, ho, hb⟩
  exact ⟨v, rfl, ho, hb⟩

set_option maxHeartbeats 1000000 in
theorem c_isTwice (A : Option Addr) (n c : Nat) (xs : List Str) (w : World) (h : SlR w 1 RStr A n c xs) (hs : ∀ x ∈ xs, x.size ≤ LIM) (hn : n ≤ 1000000) :
    Calls Try.prog 50 #[.slice A n c] w fun e w' => e = .returned (.bool (decide (¬ xs.Nodup))) ∧ Below w.heap.size w w' := by
  have H := Box.mk h
  have HS := Box.mk hs
  have HT := Box.mk (twice_iff xs)
  have hsl := setS_length_le xs
  rw [h.len] at hsl
  have HL := Box.mk h.len
  clear h hs
  go_enter Try.func50, Try.ntmps50
  go_wp2_with fail
  refine (c_Values A n c w).mono ?_
  rintro e w1 ⟨rfl, hw1⟩
  have HB1 : Box (Below w.heap.size w w1) := ⟨hw1 ▸ bel_alloc _ _⟩
  have C := Box.mk (c_SortedValues A n c xs w w1 H.out hw1 (by omega))
  clear hw1
  go_wp2_with fail
  refine C.out.mono ?_
  rintro e w2 ⟨v, rfl, ho, hb2⟩
  have HO := Box.mk ho
  have HB2 := Box.mk (below_tr HB1.out HB1.out.size hb2)
  clear ho hb2
  go_wp2_with fail
  refine (c_Compact w1.heap.size v xs w2 HO.out HS.out (by rw [HL.out]; omega)).mono ?_
  rintro e w3 ⟨A', c', rfl, _, hg⟩
  have HB3 := Box.mk (below_grown HB2.out HB1.out.size HB2.out.size HO.out hg)
  clear hg
  go_wp2_with fail
  go_ret
  exact ⟨rb (by rw [← HT.out, HL.out] <;> simp), HB3.out⟩
end Go.Proofs.Ytchhjldopecliaa
namespace Go.Proofs.Ytchhjldopecliaa
open Go.RowKit

def misfit (m : Md) : Bool := !((m.sz.length == m.pr.length) && (m.cl.length == m.pr.length))
def namesOf (ms : List Md) : List Str := ms.map (·.nm)
def procsOf (ms : List Md) : List Str := ms.flatMap (·.pr)
/-- What Validate tells. -/
def vld (ms : List Md) : Int :=
  if largeB ms then 3 else if ms.any (fun m => !rightB m) then 1 else if ms.any misfit then 10 else if ¬ (namesOf ms).Nodup ∨ ¬ (procsOf ms).Nodup then 5 else 0

theorem namesOf_take {ms : List Md} {k : Nat} {m : Md} (h : ms[k]? = some m) : namesOf (ms.take (k + 1)) = namesOf (ms.take k) ++ [m.nm] := by
  unfold namesOf
  rw [List.take_add_one, h]
  simp
theorem procsOf_take {ms : List Md} {k : Nat} {m : Md} (h : ms[k]? = some m) : procsOf (ms.take (k + 1)) = procsOf (ms.take k) ++ m.pr := by
  unfold procsOf
  rw [List.take_add_one, h]
  simp
theorem procsOf_length (ms : List Md) : (procsOf ms).length = sumL ms := by
  unfold procsOf sumL
  rw [List.length_flatMap]
theorem sumL_mono (ms : List Md) (k : Nat) : sumL (ms.take k) ≤ sumL ms := by
  have : sumL (ms.take k ++ ms.drop k) = sumL (ms.take k) + sumL (ms.drop k) := by unfold sumL; rw [List.map_append, List.sum_append]
  rw [List.take_append_drop] at this
  omega

/-- Two rows of one's own, apart. -/
def Apart (v u : Value) : Prop := v.ownBlock = none ∨ v.ownBlock ≠ u.ownBlock
theorem Apart.symm {v u : Value} (h : Apart v u) : u.ownBlock = none ∨ u.ownBlock ≠ v.ownBlock := by
  unfold Apart at h
  cases hv : v.ownBlock <;> cases hu : u.ownBlock <;> simp_all
  intro e; exact h e.symm
theorem Apart.step {v v' u : Value} {L M : Nat} (h : Apart v u) (hu : ∀ B, u.ownBlock = some B → B < L) (hM : L ≤ M) (hat : v'.ownBlock = v.ownBlock ∨ v'.ownBlock = some M) : Apart v' u := by
  unfold Apart at *
  rcases hat with hat | hat
  · rw [hat]; exact h
  · right
    rw [hat]
    intro e
    have := hu _ e.symm
    omega

theorem mds_sizes {w : World} {A : Option Addr} {n c : Nat} {ms : List Md} (h : SlR w 5 RMd A n c ms) : (∀ x ∈ namesOf ms, x.size ≤ LIM) ∧ (∀ x ∈ procsOf ms, x.size ≤ LIM) := by
  have key : ∀ m ∈ ms, m.nm.size ≤ LIM ∧ ∀ x ∈ m.pr, x.size ≤ LIM := by
    intro m hm
    obtain ⟨k, hk⟩ := List.mem_iff_getElem?.1 hm
    have hl := (List.getElem?_eq_some_iff.1 hk).1
    rw [h.len] at hl
    obtain ⟨b, off, m', A1, n1, c1, A2, n2, c2, A3, n3, c3, rfl, hb, hm', hM, _⟩ := h.md_at k hl
    rw [hk] at hm'
    injection hm' with hm'
    subst hm'
    refine ⟨hM.nm, fun x hx => ?_⟩
    obtain ⟨i, hi⟩ := List.mem_iff_getElem?.1 hx
    have hl := (List.getElem?_eq_some_iff.1 hi).1
    rw [hM.pr.len] at hl
    obtain ⟨b, off, x', rfl, hb, hx', hs, _⟩ := hM.pr.str_at i hl
    rw [hi] at hx'
    injection hx' with hx'
    subst hx'
    exact hs
  constructor
  · intro x hx
    obtain ⟨m, hm, rfl⟩ := List.mem_map.1 hx
    exact (key m hm).1
  · intro x hx
    obtain ⟨m, hm, hx⟩ := List.mem_flatMap.1 hx
    exact (key m hm).2 x hx

set_option maxRecDepth 100000 in
set_option maxHeartbeats 4000000 in
theorem c_Validate (A : Option Addr) (n c : Nat) (ms : List Md) (w : World) (h : SlR w 5 RMd A n c ms) :
    Calls Try.prog 18 #[.slice A n c] w fun e w' => e = .returned (.int .i64 (vld ms)) ∧ Below w.heap.size w w' := by
  have hlim := h.lim
  have H := Box.mk h
  clear h
  go_enter Try.func18, Try.ntmps18
  go_wp2_with fail
  refine (c_isLarge A n c ms w H.out).mono ?_
  rintro e w1 ⟨rfl, hb1⟩
  have HB1 := Box.mk hb1
  clear hb1
  generalize hL : largeB ms = L
  have HL := Box.mk hL
  clear hL
  cases L
  case true =>
    go_wp2_with fail
    go_ret
    exact ⟨ret_int (by simp [vld, HL.out]), HB1.out⟩
  case false =>
    have hn32 : n ≤ 32 ∧ sumL ms ≤ 100 := by
      have := HL.out
      simp only [largeB, Bool.or_eq_false_iff, decide_eq_false_iff_not, H.out.len] at this
      omega
    have HN := Box.mk hn32
    clear hn32
    go_wp2_with fail
    go_loopw [3, 4, 5, 7, 12] (fun v3 v4 f _ i wr => ∃ k : Nat, k ≤ n ∧ i = .int .i64 k ∧ Box (Below w.heap.size w wr) ∧ Box ((ms.take k).any (fun m => !rightB m) = false) ∧ f = .bool (!(ms.take k).any misfit) ∧
      Box (wr.ownsRow w.heap.size 9 1 v3 (namesOf (ms.take k)).length ((namesOf (ms.take k)).map Value.string)) ∧ Box (wr.ownsRow w.heap.size 9 1 v4 (procsOf (ms.take k)).length ((procsOf (ms.take k)).map Value.string)) ∧ Box (Apart v3 v4)) (fun _ _ _ _ i _ => n - (intOf i).toNat)
    case atStart => exact ⟨0, Nat.zero_le _, rfl, HB1, ⟨rfl⟩, rfl, ⟨World.ownsRow_nil _ _ _ _⟩, ⟨World.ownsRow_nil _ _ _ _⟩, ⟨.inl rfl⟩⟩
    case round =>
      obtain ⟨k, hk, rfl, HB, HR, rfl, H3, H4, HAp⟩ := hrel
      by_cases hlt : k < n
      · obtain ⟨b, off, m, A1, n1, c1, A2, n2, c2, A3, n3, c3, rfl, hb, hm, hM, h0, h1, h2, h3, h4⟩ := H.out.md_at k hlt
        replace h0 := cellk HB.out hb h0
        replace h1 := cellk HB.out hb h1
        replace h2 := cellk HB.out hb h2
        replace h3 := cellk HB.out hb h3
        replace h4 := cellk HB.out hb h4
        have HM := Box.mk hM
        have HX := Box.mk hm
        have hk100 : Box (k < 32 ∧ (procsOf (ms.take k)).length + n1 ≤ 100 ∧ (namesOf (ms.take k)).length ≤ 32) := ⟨by
          have e1 := sumL_mono ms (k + 1)
          rw [sumL_take hm, hM.pr.len] at e1
          have e2 := HN.out
          have e3 : (namesOf (ms.take k)).length ≤ k := by simp [namesOf]; omega
          rw [procsOf_length]
          omega⟩
        clear hM hm
        generalize hF : (ms.take k).any misfit = F at *
        have HF := Box.mk hF
        clear hF
        go_wp2_with fail
        have hba := bel_alloc wr (.cells #[.string m.nm, .int .i64 m.ov, .slice A1 n1 c1, .slice A2 n2 c2, .slice A3 n3 c3] 33)
        refine (c_isRight m A1 n1 c1 A2 n2 c2 A3 n3 c3 _ (HM.out.below (bel_alloc2 HB.out _))).mono ?_
        rintro e w2 ⟨rfl, hb2⟩
        have d0 : w2.cell? ⟨wr.heap.size, 0, none⟩ = some (.string m.nm) := cellk hb2 (by simp) (by simp)
        have d2 : w2.cell? ⟨wr.heap.size, 2, none⟩ = some (.slice A1 n1 c1) := cellk hb2 (by simp) (by simp)
        have d3 : w2.cell? ⟨wr.heap.size, 3, none⟩ = some (.slice A2 n2 c2) := cellk hb2 (by simp) (by simp)
        have d4 : w2.cell? ⟨wr.heap.size, 4, none⟩ = some (.slice A3 n3 c3) := cellk hb2 (by simp) (by simp)
        have HBr2 := Box.mk (below_tr hba (by simp) hb2)
        have D : Box (wr.heap.size < w2.heap.size) := ⟨by have := hb2.size; simp at this; omega⟩
        have HB2 := Box.mk (below_tr HB.out HB.out.size HBr2.out)
        clear hba hb2 h0 h1 h2 h3 h4
        generalize hq : rightB m = R at *
        have HQ := Box.mk hq
        clear hq
        cases R
        case false =>
          go_wp2_with fail
          go_ret
          refine ⟨ret_int ?_, HB2.out⟩
          simp [vld, HL.out, any_of_at (p := fun m => !rightB m) HX.out (by rw [HQ.out]; rfl)]
        case true =>
          have H3' := Box.mk (own_below H3.out HBr2.out)
          have H4' := Box.mk (own_below H4.out HBr2.out)
          have N3 : Box (∀ B, u3.ownBlock = some B → B < wr.heap.size) := ⟨fun B e => (H3.out.lt B e).2⟩
          have N4 : Box (∀ B, u4.ownBlock = some B → B < wr.heap.size) := ⟨fun B e => (H4.out.lt B e).2⟩
          clear H3 H4
          have dlt := D.out
          go_upto_region 10 with fail
          go_cut [3, 4] (fun s3 s4 wx => Box (Below w.heap.size w wx) ∧ wx.cell? ⟨wr.heap.size, 2, none⟩ = some (.slice A1 n1 c1) ∧ wx.cell? ⟨wr.heap.size, 3, none⟩ = some (.slice A2 n2 c2) ∧ wx.cell? ⟨wr.heap.size, 4, none⟩ = some (.slice A3 n3 c3) ∧
            Box (wx.ownsRow w.heap.size 9 1 s3 (namesOf (ms.take (k + 1))).length ((namesOf (ms.take (k + 1))).map Value.string)) ∧ Box (wx.ownsRow w.heap.size 9 1 s4 (procsOf (ms.take (k + 1))).length ((procsOf (ms.take (k + 1))).map Value.string)) ∧ Box (Apart s3 s4) ∧ Box (wr.heap.size < wx.heap.size))
          case first =>
            go_region_law (first
              | (refine step_app _ w.heap.size rfl _ _ 23 9 rfl (.string ByteArray.empty) 1 16 Try.underlying23 info_str rfl (by decide) (by decide) u3 _ _ rfl (H3'.out.alloc _) (some ⟨_, 0, none⟩) 1 1 [.string m.nm] rfl (src_one _ _ _ rfl) (by have := hk100.out; omega) (by have := HB2.out.size; simp; omega) ?_; intro v3' wa ho3 hg3' hat3; have hg3 := grown_al w2 hg3' rfl rfl rfl rfl; clear hg3'; have e2 := gcell hg3 N3.out d2; have e3 := gcell hg3 N3.out d3; have e4 := gcell hg3 N3.out d4; have HO3 := Box.mk ho3; have HG3 := Box.mk hg3; have HT3 := Box.mk hat3; clear ho3 hg3 hat3)
              | (refine step_app _ w.heap.size rfl _ _ 23 9 rfl (.string ByteArray.empty) 1 16 Try.underlying23 info_str rfl (by decide) (by decide) u4 _ _ rfl (own_other H4'.out HG3.out HAp.out.symm) A1 n1 c1 (m.pr.map Value.string) rfl (src_strs (HM.out.pr.below mono_str (below_grown HB2.out (Nat.le_refl _) HB2.out.size H3'.out HG3.out))) (by have := hk100.out; omega) (by have := HB2.out.size; have := HG3.out.size; omega) ?_; intro v4' wb ho4 hg4 hat4; have f2 := gcell hg4 N4.out e2; have f3 := gcell hg4 N4.out e3; have f4 := gcell hg4 N4.out e4; have HO4 := Box.mk ho4; have HG4 := Box.mk hg4; have HT4 := Box.mk hat4; clear ho4 hg4 hat4))
            go_wp2_with fail
            all_goals
              go_meet
              refine ⟨⟨below_grown (below_grown HB2.out (Nat.le_refl _) HB2.out.size H3'.out HG3.out) (Nat.le_refl _) (by have := HB2.out.size; have := HG3.out.size; omega) (own_other H4'.out HG3.out HAp.out.symm) HG4.out⟩, f2, f3, f4, ⟨?_⟩, ⟨?_⟩, ⟨?_⟩, ⟨by have := D.out; have := HG3.out.size; have := HG4.out.size; omega⟩⟩
              · rw [namesOf_take HX.out, List.map_append, List.length_append]
                exact own_other HO3.out HG4.out (HAp.out.step N4.out (Nat.le_of_lt (by simp; omega)) HT3.out)
              · rw [procsOf_take HX.out, List.map_append, List.length_append, HM.out.pr.len]
                exact HO4.out
              · have a1 : Apart v3' u4 := HAp.out.step N4.out (Nat.le_of_lt (by simp; omega)) HT3.out
                exact (Apart.step (L := wa.heap.size) a1.symm (fun B e => (HO3.out.lt B e).2) (Nat.le_refl _) HT4.out).symm
          case rest =>
            obtain ⟨HBc, d2, d3, d4, H3c, H4c, HApc, D'⟩ := hcut
            have ePR : m.pr.length = n1 := HM.out.pr.len
            have eSZ : m.sz.length = n2 := HM.out.sz.len
            have eCL : m.cl.length = n3 := HM.out.cl.len
            have hmis : Box (misfit m = !((n2 == n1) && (n3 == n1))) := ⟨by rw [misfit, ePR, eSZ, eCL]⟩
            have hany : Box ((ms.take (k + 1)).any misfit = (F || misfit m)) := ⟨by rw [List.take_add_one, HX.out, List.any_append, HF.out]; simp⟩
            clear ePR eSZ eCL
            have hl2 := HM.out.sz.lim
            have hl1 := HM.out.pr.lim
            have hl3 := HM.out.cl.lim
            have HRk : Box ((ms.take (k + 1)).any (fun m => !rightB m) = false) := ⟨anyTake_succ HX.out HR.out (by rw [HQ.out]; rfl)⟩
            have dlt' := D'.out
            cases F
            case true =>
              go_wp2_with fail
              go_roundw
              case rel => exact ⟨k + 1, by omega, by go_num, HBc, HRk, by rw [hany.out]; rfl, H3c, H4c, HApc⟩
              case measure => simp [intOf]; omega
            case false =>
              by_cases e2 : n2 = n1
              · by_cases e3 : n3 = n1
                · have hq : Box (misfit m = false) := ⟨by rw [hmis.out, e2, e3]; simp⟩
                  subst e2
                  subst e3
                  go_wp2_with fail
                  go_roundw
                  case rel => exact ⟨k + 1, by omega, by go_num, HBc, HRk, vb (by rw [hany.out, hq.out]; simp; try omega), H3c, H4c, HApc⟩
                  case measure => simp [intOf]; omega
                · have hq : Box (misfit m = true) := ⟨by rw [hmis.out, e2]; simp [e3]⟩
                  subst e2
                  go_wp2_with fail
                  go_roundw
                  case rel => exact ⟨k + 1, by omega, by go_num, HBc, HRk, vb (by rw [hany.out, hq.out]; simp; try omega), H3c, H4c, HApc⟩
                  case measure => simp [intOf]; omega
              · have hq : Box (misfit m = true) := ⟨by rw [hmis.out]; simp [e2]⟩
                go_wp2_with fail
                go_roundw
                case rel => exact ⟨k + 1, by omega, by go_num, HBc, HRk, vb (by rw [hany.out, hq.out]; simp; try omega), H3c, H4c, HApc⟩
                case measure => simp [intOf]; omega
      · obtain rfl : k = n := by omega
        have hT : ms.take k = ms := List.take_of_length_le (by rw [H.out.len]; exact Nat.le_refl _)
        rw [hT] at HR H3 H4
        rw [hT]
        clear hT
        have hnl : (namesOf ms).length ≤ 32 ∧ (procsOf ms).length ≤ 100 := by
          rw [procsOf_length]; have := H.out.len; have := HN.out; simp [namesOf]; omega
        have hsz : (∀ x ∈ namesOf ms, x.size ≤ LIM) ∧ (∀ x ∈ procsOf ms, x.size ≤ LIM) := mds_sizes H.out
        obtain ⟨B3, c3, rfl, S3⟩ := own_strs H3.out hsz.1 (by have := hnl.1; simp only [LIM]; omega)
        obtain ⟨B4, c4, rfl, S4⟩ := own_strs H4.out hsz.2 (by have := hnl.2; simp only [LIM]; omega)
        have HNL := Box.mk hnl
        have HS3 := Box.mk S3
        have HSZ := Box.mk hsz
        have HS4 := Box.mk S4
        clear S3 S4 hsz hnl H3 H4
        generalize hF : ms.any misfit = F at *
        have HF := Box.mk hF
        clear hF
        cases F
        case true =>
          go_wp2_with fail
          go_ret
          exact ⟨ret_int (by simp [vld, HL.out, HR.out, HF.out]), HB.out⟩
        case false =>
          go_wp2_with fail
          refine (c_isTwice _ _ _ (namesOf ms) wr HS3.out HSZ.out.1 (by have := HNL.out; omega)).mono ?_
          rintro e w1 ⟨rfl, hb1⟩
          have HB1 := Box.mk (below_tr HB.out HB.out.size hb1)
          have HS4' := Box.mk (HS4.out.below mono_str hb1)
          clear hb1
          by_cases hn : (namesOf ms).Nodup
          · have e0 : decide (¬ (namesOf ms).Nodup) = false := by simp [hn]
            rw [e0]
            have HNN := Box.mk hn
            clear hn e0
            go_wp2_with fail
            refine (c_isTwice _ _ _ (procsOf ms) w1 HS4'.out HSZ.out.2 (by have := HNL.out; omega)).mono ?_
            rintro e w2 ⟨rfl, hb2⟩
            have HB2 := Box.mk (below_tr HB1.out HB1.out.size hb2)
            clear hb2
            by_cases hp : (procsOf ms).Nodup
            · have e0 : decide (¬ (procsOf ms).Nodup) = false := by simp [hp]
              rw [e0]
              have HP := Box.mk hp
              clear hp e0
              go_wp2_with fail
              go_ret
              exact ⟨ret_int (by simp [vld, HL.out, HR.out, HF.out, HNN.out, HP.out]), HB2.out⟩
            · have e0 : decide (¬ (procsOf ms).Nodup) = true := by simp [hp]
              rw [e0]
              have HP := Box.mk hp
              clear hp e0
              go_wp2_with fail
              go_ret
              exact ⟨ret_int (by simp [vld, HL.out, HR.out, HF.out, HNN.out, HP.out]), HB2.out⟩
          · have e0 : decide (¬ (namesOf ms).Nodup) = true := by simp [hn]
            rw [e0]
            have HNN := Box.mk hn
            clear hn e0
            go_wp2_with fail
            go_ret
            exact ⟨ret_int (by simp [vld, HL.out, HR.out, HF.out, HNN.out]), HB1.out⟩
end Go.Proofs.Ytchhjldopecliaa
namespace Go.Proofs.Ytchhjldopecliaa
open Go.RowKit

/-! ### procedures -/
structure Pc where
  nm : Str
  ov : Int
  sz : Int
  cl : List Str

def pcOf (m : Md) (i : Nat) : Pc := ⟨m.pr.getD i ByteArray.empty, m.ov, m.sz.getD i 0, m.cl.getD i []⟩
def prM (m : Md) : List Pc := (List.range m.pr.length).map (pcOf m)
def prs (ms : List Md) : List Pc := ms.flatMap prM
def fnd (x : Str) (ps : List Pc) : Option Pc := ps.find? (fun p => decide (p.nm = x))

theorem prM_length (m : Md) : (prM m).length = m.pr.length := by simp [prM]
theorem prM_get (m : Md) (i : Nat) (h : i < m.pr.length) : (prM m)[i]? = some (pcOf m i) := by simp [prM, h]
theorem prM_take (m : Md) (i : Nat) (h : i < m.pr.length) : (prM m).take (i + 1) = (prM m).take i ++ [pcOf m i] := by
  rw [List.take_add_one, prM_get m i h]; rfl
theorem prM_nm (m : Md) : (prM m).map (·.nm) = m.pr := by
  apply List.ext_getElem?
  intro i
  rw [List.getElem?_map]
  by_cases h : i < m.pr.length
  · rw [prM_get m i h]
    simp [pcOf, h]
  · rw [List.getElem?_eq_none (by rw [prM_length]; omega), List.getElem?_eq_none (by omega)]
    rfl
theorem prs_nm (ms : List Md) : (prs ms).map (·.nm) = procsOf ms := by
  unfold prs procsOf
  rw [List.map_flatMap]
  congr 1
  funext m
  exact prM_nm m
theorem prs_take {ms : List Md} {k : Nat} {m : Md} (h : ms[k]? = some m) : prs (ms.take (k + 1)) = prs (ms.take k) ++ prM m := by
  unfold prs
  rw [List.take_add_one, h]
  simp
theorem prs_length (ms : List Md) : (prs ms).length = sumL ms := by
  rw [← procsOf_length, ← prs_nm, List.length_map]
theorem fnd_none {x : Str} {ps : List Pc} : fnd x ps = none ↔ x ∉ ps.map (·.nm) := by
  unfold fnd
  rw [List.find?_eq_none]
  simp
theorem fnd_some {x : Str} {ps : List Pc} {p : Pc} (h : fnd x ps = some p) : p ∈ ps ∧ p.nm = x := by
  unfold fnd at h
  exact ⟨List.mem_of_find?_eq_some h, by simpa using List.find?_some h⟩

/-! ### the map of procedures -/
abbrev encS : Str → Value := fun s => .string s
def VPc (w : World) (p : Pc) (v : Value) : Prop := ∃ A n c, v = .agg #[.int .i64 p.ov, .slice A n c] ∧ SlR w 1 RStr A n c p.cl
theorem VPc.below {w w' : World} {p : Pc} {v : Value} (h : VPc w p v) (hb : Below w.heap.size w w') : VPc w' p v := by
  obtain ⟨A, n, c, e, h⟩ := h
  exact ⟨A, n, c, e, h.below mono_str hb⟩
inductive PV (w : World) : List (Str × Value) → List Pc → Prop
  | nil : PV w [] []
  | cons {v : Value} {p : Pc} {r : List (Str × Value)} {ps : List Pc} : VPc w p v → PV w r ps → PV w ((p.nm, v) :: r) (p :: ps)
theorem PV.mono {w w' : World} {kvs : List (Str × Value)} {ps : List Pc} (h : PV w kvs ps) (hb : Below w.heap.size w w') : PV w' kvs ps := by
  induction h with
  | nil => exact .nil
  | cons h _ ih => exact .cons (h.below hb) ih
theorem PV.app {w : World} {kvs : List (Str × Value)} {ps : List Pc} {p : Pc} {v : Value} (h : PV w kvs ps) (hv : VPc w p v) : PV w (kvs ++ [(p.nm, v)]) (ps ++ [p]) := by
  induction h with
  | nil => exact .cons hv .nil
  | cons h _ ih => exact .cons h ih
theorem PV.keys {w : World} {kvs : List (Str × Value)} {ps : List Pc} (h : PV w kvs ps) : kvs.map (·.1) = ps.map (·.nm) := by
  induction h with
  | nil => rfl
  | cons h _ ih => simp [ih]
theorem PV.mem {w : World} {kvs : List (Str × Value)} {ps : List Pc} (h : PV w kvs ps) {x : Str} {v : Value} (hm : (x, v) ∈ kvs) : ∃ p ∈ ps, x = p.nm ∧ VPc w p v := by
  induction h with
  | nil => cases hm
  | @cons v' p r ps hv _ ih =>
    rcases List.mem_cons.1 hm with e | e
    · injection e with e1 e2
      subst e1 e2
      exact ⟨p, List.mem_cons_self .., rfl, hv⟩
    · obtain ⟨q, hq, r⟩ := ih e
      exact ⟨q, List.mem_cons_of_mem _ hq, r⟩
theorem PV.get_some {w : World} {kvs : List (Str × Value)} {ps : List Pc} (h : PV w kvs ps) {x : Str} {p : Pc} (hf : fnd x ps = some p) : ∃ v, getK x kvs = some v ∧ VPc w p v := by
  induction h with
  | nil => cases hf
  | @cons v' q r ps hv _ ih =>
    rw [getK_cons]
    unfold fnd at hf ih
    rw [List.find?_cons] at hf
    by_cases he : q.nm = x
    · simp only [he, decide_true, Option.some.injEq] at hf
      subst hf
      exact ⟨v', by rw [if_pos he.symm], hv⟩
    · simp only [he, decide_false] at hf
      rw [if_neg (fun e => he e.symm)]
      exact ih hf
theorem PV.get_none {w : World} {kvs : List (Str × Value)} {ps : List Pc} (h : PV w kvs ps) {x : Str} (hf : fnd x ps = none) : getK x kvs = none := by
  rw [getK_none]
  intro kv hkv e
  rw [fnd_none, ← h.keys] at hf
  exact hf (e ▸ List.mem_map_of_mem hkv)

/-- The map of procedures lies there. -/
def MapP (w : World) (b : Nat) (ps : List Pc) : Prop := ∃ kvs, MapK encS w b kvs ∧ PV w kvs ps
theorem MapP.below {w w' : World} {b : Nat} {ps : List Pc} (h : MapP w b ps) (hb : Below w.heap.size w w') : MapP w' b ps := by
  obtain ⟨kvs, h1, h2⟩ := h
  exact ⟨kvs, h1.below hb, h2.mono hb⟩
theorem MapP.lt {w : World} {b : Nat} {ps : List Pc} (h : MapP w b ps) : b < w.heap.size := by
  obtain ⟨kvs, h1, h2⟩ := h
  exact h1.lt
end Go.Proofs.Ytchhjldopecliaa
namespace Go.Proofs.Ytchhjldopecliaa
open Go.RowKit

theorem zero_proc (w : World) : (zeroValue 64).run Try.prog w = .ok (.agg #[.int .i64 0, .slice none 0 0]) w := by
  kernel_rfl

theorem keyS : KeyOK Try.prog 9 encS := keyOK_string Try.underlying9

theorem getD_some {α : Type} {l : List α} {i : Nat} {x d : α} (h : l[i]? = some x) : l.getD i d = x := by rw [List.getD_eq_getElem?_getD, h]; rfl
theorem prM_last {ms : List Md} {k : Nat} {m : Md} {i : Nat} (hd : (procsOf ms).Nodup) (hk : ms[k]? = some m) (hi : i < m.pr.length) :
    (pcOf m i).nm ∉ (prs (ms.take k) ++ (prM m).take i).map (·.nm) := by
  intro hx
  rw [← prs_nm] at hd
  have e : prs ms = (prs (ms.take k) ++ (prM m).take i) ++ (pcOf m i :: ((prM m).drop (i + 1) ++ prs (ms.drop (k + 1)))) := by
    have e1 : prs ms = prs (ms.take (k + 1)) ++ prs (ms.drop (k + 1)) := by
      unfold prs
      rw [← List.flatMap_append, List.take_append_drop]
    have e2 : prM m = (prM m).take i ++ pcOf m i :: (prM m).drop (i + 1) := by
      have h1 : i < (prM m).length := by rw [prM_length]; exact hi
      have h2 : (prM m)[i] = pcOf m i := by
        have := prM_get m i hi
        rw [List.getElem?_eq_getElem h1] at this
        exact Option.some.inj this
      rw [← h2, ← List.drop_eq_getElem_cons h1, List.take_append_drop]
    rw [e1, prs_take hk]
    conv => lhs; rw [e2]
    simp
  rw [e, List.map_append, List.nodup_append] at hd
  exact hd.2.2 _ hx _ (by simp) rfl

set_option maxRecDepth 100000 in
set_option maxHeartbeats 4000000 in
theorem c_procs (A : Option Addr) (n c : Nat) (ms : List Md) (w : World) (h : SlR w 5 RMd A n c ms) (hf : ∀ m ∈ ms, misfit m = false) (hd : (procsOf ms).Nodup) :
    Calls Try.prog 54 #[.slice A n c] w fun e w' => ∃ b, e = .returned (.map (some b)) ∧ MapP w' b (prs ms) ∧ w.heap.size ≤ b ∧ Below w.heap.size w w' := by
  have hlim := h.lim
  have H := Box.mk h
  have HF := Box.mk hf
  have HD := Box.mk hd
  clear h hf hd
  have hmm := @run_makeMap Try.prog
  go_enter Try.func54, Try.ntmps54
  go_wp2_with fail
  clear hmm
  have HB1 : Box (Below w.heap.size w (w.alloc (.map #[] 0))) := ⟨bel_alloc _ _⟩
  have HM1 : Box (MapK encS (w.alloc (.map #[] 0)) w.heap.size []) := ⟨MapK_made w _⟩
  go_loopw [5, 6, 7, 11] (fun _ _ _ i wr => ∃ k : Nat, k ≤ n ∧ i = .int .i64 k ∧ Box (Below w.heap.size w wr) ∧ Box (∃ kvs, MapK encS wr w.heap.size kvs ∧ PV w kvs (prs (ms.take k)))) (fun _ _ _ i _ => n - (intOf i).toNat)
  case atStart => exact ⟨0, Nat.zero_le _, rfl, HB1, ⟨_, HM1.out, .nil⟩⟩
  case round =>
    obtain ⟨k, hk, rfl, HB, HP⟩ := hrel
    clear HB1 HM1
    by_cases hlt : k < n
    · obtain ⟨b, off, m, A1, n1, c1, A2, n2, c2, A3, n3, c3, rfl, hb, hm, hM, h0, h1, h2, h3, h4⟩ := H.out.md_at k hlt
      have hfit := HF.out m (List.mem_iff_getElem?.2 ⟨k, hm⟩)
      have hfit' : n3 = n1 := by
        unfold misfit at hfit
        rw [hM.pr.len, hM.cl.len] at hfit
        simp at hfit
        exact hfit.2
      subst hfit'
      replace h0 := cellk HB.out hb h0
      replace h1 := cellk HB.out hb h1
      replace h2 := cellk HB.out hb h2
      replace h3 := cellk HB.out hb h3
      replace h4 := cellk HB.out hb h4
      have HM := Box.mk hM
      have HX := Box.mk hm
      have hn3 := hM.pr.lim
      have BM : Box (w.heap.size < wr.heap.size) := ⟨by obtain ⟨kvs, h, _⟩ := HP.out; exact h.lt⟩
      clear hM hm hfit
      go_wp2_with fail
      have hba := bel_alloc wr (.cells #[.string m.nm, .int .i64 m.ov, .slice A1 n3 c1, .slice A2 n2 c2, .slice A3 n3 c3] 33)
      have HB1 : Box (Below w.heap.size w (wr.alloc (.cells #[.string m.nm, .int .i64 m.ov, .slice A1 n3 c1, .slice A2 n2 c2, .slice A3 n3 c3] 33))) := ⟨bel_alloc2 HB.out _⟩
      have HP1 : Box (∃ kvs, MapK encS (wr.alloc (.cells #[.string m.nm, .int .i64 m.ov, .slice A1 n3 c1, .slice A2 n2 c2, .slice A3 n3 c3] 33)) w.heap.size kvs ∧ PV w kvs (prs (ms.take k))) := ⟨by
        obtain ⟨kvs, h1, h2⟩ := HP.out
        exact ⟨kvs, h1.alloc _, h2⟩⟩
      have HS1 : Box (wr.heap.size < (wr.alloc (.cells #[.string m.nm, .int .i64 m.ov, .slice A1 n3 c1, .slice A2 n2 c2, .slice A3 n3 c3] 33)).heap.size) := ⟨by simp⟩
      clear hba HP HB h0 h1 h2 h3 h4
      generalize wr = wr' at *
      go_loopw [6, 7, 18] (fun _ _ i wx => ∃ j : Nat, j ≤ n3 ∧ i = .int .i64 j ∧ Box (Below w.heap.size w wx) ∧ wx.cell? ⟨wr'.heap.size, 1, none⟩ = some (.int .i64 m.ov) ∧ wx.cell? ⟨wr'.heap.size, 4, none⟩ = some (.slice A3 n3 c3) ∧ Box (wr'.heap.size < wx.heap.size) ∧
        Box (∃ kvs, MapK encS wx w.heap.size kvs ∧ PV w kvs (prs (ms.take k) ++ (prM m).take j))) (fun _ _ i _ => n3 - (intOf i).toNat)
      case atStart => exact ⟨0, Nat.zero_le _, rfl, HB1, by simp, by simp, HS1, ⟨by simpa using HP1.out⟩⟩
      case round =>
        obtain ⟨j, hj, rfl, HB, d1, d4, HS, HP⟩ := hrel
        clear HB1 HP1 HS1
        by_cases hjl : j < n3
        · obtain ⟨b5, o5, x, rfl, hb5, hx5, hs5, hc5⟩ := HM.out.pr.str_at j hjl
          obtain ⟨b6, o6, l, A6, n6, c6, rfl, hb6, hx6, hc6, hl6⟩ := HM.out.cl.sl_at j hjl
          replace hc5 := cellk HB.out hb5 hc5
          replace hc6 := cellk HB.out hb6 hc6
          have hpc : Box ((pcOf m j).nm = x ∧ (pcOf m j).cl = l ∧ (pcOf m j).ov = m.ov) := ⟨getD_some hx5, getD_some hx6, rfl⟩
          have HL := Box.mk hl6
          have dlt := HS.out
          clear hx5 hx6 hl6 hs5
          obtain ⟨kvs, hkv, hpv⟩ := HP.out
          have HKV := Box.mk hkv
          have HPV := Box.mk hpv
          clear hkv hpv HP
          obtain ⟨w2, hr, hk2, hg2, hs2⟩ := MapK.update (P := Try.prog) (w := wr.drew) HKV.out keyS Try.underlying57 x (.agg #[.int .i64 m.ov, .slice A6 n6 c6])
          have HK2 := Box.mk hk2
          have HG2 := Box.mk hg2
          have HS2 := Box.mk hs2
          clear hk2 hg2 hs2
          go_upto_region 8 with fail
          go_region
          clear hr
          have HBW : Box (Below w.heap.size w w2) := ⟨HB.out.grown (w := wr) ⟨HG2.out.os, HG2.out.tape, HG2.out.output, HG2.out.size, HG2.out.block⟩ HB.out.size (fun q hq => by injection hq with hq; omega)⟩
          have e1 := HG2.out.cell (w := wr.drew) d1 (by intro e; injection e with e; have e : wr'.heap.size = w.heap.size := e; have := BM.out; omega)
          have e4 := HG2.out.cell (w := wr.drew) d4 (by intro e; injection e with e; have e : wr'.heap.size = w.heap.size := e; have := BM.out; omega)
          have HSZ : Box (wr'.heap.size < w2.heap.size) := ⟨by have := HG2.out.size; have e : wr.heap.size ≤ w2.heap.size := this; have := HS.out; omega⟩
          go_wp2_with fail
          go_roundw
          case rel =>
            refine ⟨j + 1, by omega, by go_num, HBW, e1, e4, HSZ, ⟨_, HK2.out, ?_⟩⟩
            have hjm : j < m.pr.length := by rw [HM.out.pr.len]; exact hjl
            have hno : getK x kvs = none := HPV.out.get_none (fnd_none.2 (hpc.out.1 ▸ prM_last HD.out HX.out hjm))
            rw [setK_new hno, prM_take m j hjm, ← List.append_assoc]
            have := HPV.out.app (p := pcOf m j) (v := .agg #[.int .i64 m.ov, .slice A6 n6 c6]) ⟨A6, n6, c6, rfl, by rw [hpc.out.2.1]; exact HL.out⟩
            rwa [hpc.out.1] at this
          case measure => simp [intOf]; omega
        · obtain rfl : j = n3 := by omega
          go_wp2_with fail
          go_roundw
          case rel =>
            refine ⟨k + 1, by omega, by go_num, HB, ?_⟩
            rw [prs_take HX.out]
            have e : (prM m).take j = prM m := List.take_of_length_le (by rw [prM_length, HM.out.pr.len]; exact Nat.le_refl _)
            rw [e] at HP
            exact HP
          case measure => simp [intOf]; omega
    · obtain rfl : k = n := by omega
      go_wp2_with fail
      go_ret
      obtain ⟨kvs, h1, h2⟩ := HP.out
      rw [List.take_of_length_le (by rw [H.out.len]; exact Nat.le_refl _)] at h2
      exact ⟨_, rfl, ⟨kvs, h1, h2.mono HB.out⟩, Nat.le_refl _, HB.out⟩
end Go.Proofs.Ytchhjldopecliaa
namespace Go.Proofs.Ytchhjldopecliaa
open Go.RowKit

def called (ps : List Pc) : List Str := ps.flatMap (·.cl)
def missL (ps : List Pc) : List Str := (called ps).filter (fun s => (fnd s ps).isNone)
def missS (ps : List Pc) : List Str := setS (missL ps)
theorem mem_missL {ps : List Pc} {s : Str} : s ∈ missL ps ↔ (∃ p ∈ ps, s ∈ p.cl) ∧ fnd s ps = none := by
  simp [missL, called, List.mem_filter, List.mem_flatMap]

/-- What stands in the list of what misses. -/
structure MissI (ps : List Pc) (kvs left : List (Str × Value)) (acc : List Str) : Prop where
  sound : ∀ s ∈ acc, s ∈ missL ps
  full : ∀ p ∈ ps, (∃ v, (p.nm, v) ∈ left) ∨ ∀ s ∈ p.cl, fnd s ps = none → s ∈ acc
  len : acc.length + left.length * 100 ≤ 10000
  size : ∀ s ∈ acc, s.size ≤ LIM

/-- The same within an entry. -/
structure MissJ (ps : List Pc) (p : Pc) (acc acc' : List Str) (j : Nat) : Prop where
  sound : ∀ s ∈ acc', s ∈ missL ps
  old : ∀ s ∈ acc, s ∈ acc'
  full : ∀ s ∈ p.cl.take j, fnd s ps = none → s ∈ acc'
  len : acc'.length ≤ acc.length + j
  size : ∀ s ∈ acc', s.size ≤ LIM

theorem MapK.look {κ : Type} [DecidableEq κ] {P : Program} {enc : κ → Value} {w : World} {b : Nat} {kvs : List (κ × Value)} (h : MapK enc w b kvs) {t k e : TypeId} (H : KeyOK P k enc) (ht : P.underlying t = some (.map k e)) {z : Value} (hz : (zeroValue e).run P w = .ok z w) {x : κ} {r : Option Value} (hr : getK x kvs = r) :
    (Instr.lookup t (.map (some b)) (enc x) false).run P w = .ok (r.getD z) w ∧ (Instr.lookup t (.map (some b)) (enc x) true).run P w = .ok (.tuple #[r.getD z, .bool r.isSome]) w := by
  subst hr
  exact ⟨by simpa using h.lookup H ht hz x false, by simpa using h.lookup H ht hz x true⟩

set_option maxRecDepth 100000 in
set_option maxHeartbeats 4000000 in
theorem c_missing (b : Nat) (ps : List Pc) (w : World) (h : MapP w b ps) (hn : (ps.map (·.nm)).Nodup) (hl : ps.length ≤ 100) (hc : ∀ p ∈ ps, p.cl.length ≤ 100) :
    Calls Try.prog 53 #[.map (some b)] w fun e w' => ∃ A c, e = .returned (.slice A (missS ps).length c) ∧ SlR w' 1 RStr A (missS ps).length c (missS ps) ∧ Below w.heap.size w w' := by
  obtain ⟨kvs, hk, hpv⟩ := h
  have hkl : kvs.length = ps.length := by have := congrArg List.length hpv.keys; simpa using this
  obtain ⟨w1, hr1, hR1, hb1, hsw1⟩ := MapK.range (P := Try.prog) hk Try.underlying57
  have hsz1 : Box (w.heap.size < w1.heap.size) := ⟨hR1.lt⟩
  have HR1 := Box.mk hR1
  have HSZ1 : Box (∀ {W : World} {l : List (Str × Value)}, RangeK encS W b w.heap.size l kvs → w1.heap.size ≤ W.heap.size) := ⟨fun h => by have := h.lt; rw [hsw1]; omega⟩
  have HB1 := Box.mk hb1
  have HPV := Box.mk hpv
  have HC := Box.mk hc
  have HI0 : Box (MissI ps kvs kvs []) := ⟨⟨by simp, fun p hp => .inl (by
    have : p.nm ∈ kvs.map (·.1) := by rw [hpv.keys]; exact List.mem_map_of_mem hp
    obtain ⟨⟨x, v⟩, hx, e⟩ := List.mem_map.1 this
    exact ⟨v, by cases e; exact hx⟩), by simp; omega, by simp⟩⟩
  have hblt := hk.lt
  have HBL := Box.mk hblt
  have HN := Box.mk hn
  clear hsw1 hR1 hb1 hk hpv hc hkl hl hblt hn
  go_enter Try.func53, Try.ntmps53
  go_wp2_with fail
  clear hr1
  go_loopg [3, 5, 7, 8, 9] kvs.length (fun g out _ _ _ _ wr => ∃ left acc, g = left.length ∧ Box (RangeK encS wr b w.heap.size left kvs) ∧ Box (Below w.heap.size w wr) ∧ Box (wr.ownsRow w1.heap.size 9 1 out acc.length (acc.map Value.string)) ∧ Box (MissI ps kvs left acc))
  case atStart => exact ⟨kvs, [], rfl, HR1, HB1, ⟨World.ownsRow_nil _ _ _ _⟩, HI0⟩
  case round =>
    obtain ⟨left, acc, rfl, HR, HB, HO, HI⟩ := hrel
    have HOS : Box (∀ B, u3.ownBlock = some B → w1.heap.size ≤ B ∧ B < wr.heap.size) := ⟨HO.out.lt⟩
    rcases RangeK.next (P := Try.prog) HR.out 0 with ⟨rfl, hr⟩ | ⟨l1, x, v, l2, w2, rfl, hr, hr', hR2, hg2, hs2⟩
    · have hacc : Box (setS acc = missS ps ∧ (∀ x ∈ acc, x.size ≤ LIM) ∧ acc.length ≤ 10000) := ⟨by
        refine ⟨setS_ext fun s => ⟨HI.out.sound s, fun h => ?_⟩, HI.out.size, by have := HI.out.len; omega⟩
        obtain ⟨⟨p, hp, hs⟩, hno⟩ := mem_missL.1 h
        rcases HI.out.full p hp with ⟨v, hv⟩ | h
        · cases hv
        · exact h s hs hno⟩
      have hlen := hacc.out.2.2
      go_wp2_with fail
      refine (c_Sort w1.heap.size u3 acc wr HO.out (by omega)).mono ?_
      rintro e w2 ⟨rfl, ho2, hg2⟩
      have HO2 := Box.mk ho2
      have HB2 := Box.mk (below_grown HB.out (by have := hsz1.out; omega) HB.out.size HO.out hg2)
      clear ho2 hg2 hr
      go_wp2_with fail
      refine (c_Compact w1.heap.size u3 acc w2 HO2.out hacc.out.2.1 (by omega)).mono ?_
      rintro e w3 ⟨A', c', rfl, hs3, hg3⟩
      have HB3 := Box.mk (below_grown HB2.out (by have := hsz1.out; omega) HB2.out.size HO2.out hg3)
      have HS3 := Box.mk hs3
      rw [hacc.out.1] at HS3 ⊢
      clear hs3 hg3
      go_wp2_with fail
      go_ret
      exact ⟨_, _, rfl, HS3.out, HB3.out⟩
    · have hmem : (x, v) ∈ kvs := by
        obtain ⟨_, _, _, _, _, _, _, hsub⟩ := HR.out
        exact hsub.subset (by simp)
      obtain ⟨p, hp, rfl, A2, n2, c2, rfl, hsl⟩ := HPV.out.mem hmem
      have hB2 : Below w.heap.size w w2 := HB.out.grown hg2 HB.out.size (fun k hk => by injection hk with hk; omega)
      have HB2 := Box.mk hB2
      have HR2 := Box.mk hR2
      have HO2 : Box (w2.ownsRow w1.heap.size 9 1 u3 acc.length (acc.map Value.string)) := ⟨own_other HO.out hg2 (by
        cases hu : u3.ownBlock with
        | none => exact .inl rfl
        | some q => exact .inr (fun e => by injection e with e; have := (HOS.out q hu).1; have := hsz1.out; omega))⟩
      have hn2 := hsl.lim
      have hc2 := HC.out p hp
      rw [hsl.len] at hc2
      have HSL := Box.mk hsl
      have HP := Box.mk hp
      clear hsl hp hB2 hR2 hg2 hmem HOS HO HR HB HR1 HB1 HI0
      have hs2' : Box (w2.heap.size = wr.heap.size) := ⟨hs2⟩
      clear hs2
      go_wp2_with fail
      clear hr hr'
      have HB3 : Box (Below w.heap.size w (w2.alloc (.cells #[.int .i64 p.ov, .slice A2 n2 c2] 64))) := ⟨bel_alloc2 HB2.out _⟩
      have HR3 : Box (RangeK encS (w2.alloc (.cells #[.int .i64 p.ov, .slice A2 n2 c2] 64)) b w.heap.size (l1 ++ l2) kvs) := ⟨HR2.out.alloc _⟩
      have HO3 : Box ((w2.alloc (.cells #[.int .i64 p.ov, .slice A2 n2 c2] 64)).ownsRow w1.heap.size 9 1 u3 acc.length (acc.map Value.string)) := ⟨HO2.out.alloc _⟩
      have HJ0 : Box (MissJ ps p acc acc 0) := ⟨⟨HI.out.sound, fun _ h => h, by simp, by omega, HI.out.size⟩⟩
      clear HB2 HR2 HO2 hs2'
      go_loopw [3, 7, 8, 9, 19] (fun out _ _ _ i wx => ∃ (j : Nat) (acc' : List Str), j ≤ n2 ∧ i = .int .i64 j ∧ Box (RangeK encS wx b w.heap.size (l1 ++ l2) kvs) ∧ Box (Below w.heap.size w wx) ∧ Box (wx.ownsRow w1.heap.size 9 1 out acc'.length (acc'.map Value.string)) ∧ Box (MissJ ps p acc acc' j)) (fun _ _ _ _ i _ => n2 - (intOf i).toNat)
      case atStart => exact ⟨0, acc, Nat.zero_le _, rfl, HR3, HB3, HO3, HJ0⟩
      case round =>
        clear HB3 HR3 HO3 HJ0
        obtain ⟨j, acc', hj, rfl, HR, HB, HO, HJ⟩ := hrel
        by_cases hjl : j < n2
        · obtain ⟨b5, o5, x, rfl, hb5, hx5, hs5, hc5⟩ := HSL.out.str_at j hjl
          replace hc5 := cellk HB.out hb5 hc5
          have HX := Box.mk hx5
          have HXS := Box.mk hs5
          have htk : Box (p.cl.take (j + 1) = p.cl.take j ++ [x]) := ⟨by rw [List.take_add_one, hx5]; rfl⟩
          have HOS : Box (∀ B, u3.ownBlock = some B → w1.heap.size ≤ B ∧ B < wr.heap.size) := ⟨HO.out.lt⟩
          have hkv := HR.out.mapK
          clear hx5 hs5
          cases hf : fnd x ps with
          | some q =>
            obtain ⟨v, hv, A7, n7, c7, rfl, hq⟩ := HPV.out.get_some hf
            have hlk : (Instr.lookup 57 (.map (some b)) (.string x) true).run Try.prog wr = .ok (.tuple #[.agg #[.int .i64 q.ov, .slice A7 n7 c7], .bool true]) wr := (hkv.look keyS Try.underlying57 (zero_proc wr) hv).2
            have HF := Box.mk hf
            clear hkv hv hq hf
            go_wp2_with fail
            clear hlk
            have HBW : Box (Below w.heap.size w (wr.alloc (.cells #[.int .i64 q.ov, .slice A7 n7 c7] 64))) := ⟨bel_alloc2 HB.out _⟩
            have HRW : Box (RangeK encS (wr.alloc (.cells #[.int .i64 q.ov, .slice A7 n7 c7] 64)) b w.heap.size (l1 ++ l2) kvs) := ⟨HR.out.alloc _⟩
            have HOW : Box ((wr.alloc (.cells #[.int .i64 q.ov, .slice A7 n7 c7] 64)).ownsRow w1.heap.size 9 1 u3 acc'.length (acc'.map Value.string)) := ⟨HO.out.alloc _⟩
            go_roundw
            case rel =>
              refine ⟨j + 1, acc', by omega, by go_num, HRW, HBW, HOW, ⟨⟨HJ.out.sound, HJ.out.old, fun s hs hno => ?_, by have := HJ.out.len; omega, HJ.out.size⟩⟩⟩
              rw [htk.out, List.mem_append] at hs
              rcases hs with hs | hs
              · exact HJ.out.full s hs hno
              · obtain rfl : s = x := by simpa using hs
                rw [HF.out] at hno; cases hno
            case measure => simp [intOf]; omega
          | none =>
            have hv := HPV.out.get_none hf
            have hlk : (Instr.lookup 57 (.map (some b)) (.string x) true).run Try.prog wr = .ok (.tuple #[.agg #[.int .i64 0, .slice none 0 0], .bool false]) wr := (hkv.look keyS Try.underlying57 (zero_proc wr) hv).2
            have HF := Box.mk hf
            have hlen : acc'.length ≤ 10000 := by have := HJ.out.len; have := HI.out.len; simp at this; omega
            clear hkv hv hf
            have D3 : Box (w1.heap.size ≤ wr.heap.size) := ⟨HSZ1.out HR.out⟩
            go_wp2_with (at_builtin; refine wpL_app _ w1.heap.size rfl _ _ 23 9 rfl (.string ByteArray.empty) 1 16 Try.underlying23 info_str rfl (by decide) (by decide) u3 _ _ rfl ((HO.out.alloc _).alloc _) (some ⟨_, 0, none⟩) 1 1 [.string x] rfl (src_at _ _ _ _ (by simp) rfl) (by omega) (by have := D3.out; simp; omega) ?_; intro v3' wa ho3 hg3' hat3)
            have hg3 : wr.grownBy wa u3.ownBlock := ⟨hg3'.os, hg3'.tape, hg3'.output, by have := hg3'.size; simp at this; omega, fun i hi hne => by rw [hg3'.block i (by simp; omega) hne, Below.heap_alloc _ _ _ (by simp; omega), Below.heap_alloc _ _ _ hi]⟩
            have HO3 := Box.mk ho3
            have HG3 := Box.mk hg3
            clear hg3' hg3 ho3 hat3
            have HBW := Box.mk (below_grown HB.out (by have := hsz1.out; omega) HB.out.size HO.out HG3.out)
            have HRW := Box.mk (HR.out.kept HG3.out (fun e => by have := (HOS.out b e.symm).1; have := hsz1.out; have := HBL.out; omega) (fun e => by have := (HOS.out _ e.symm).1; have := hsz1.out; omega))
            go_roundw
            case rel =>
              refine ⟨j + 1, acc' ++ [x], by omega, by go_num, HRW, HBW, ⟨by rw [List.map_append, List.length_append]; exact HO3.out⟩, ⟨⟨?_, ?_, ?_, ?_, ?_⟩⟩⟩
              · intro s hs
                rcases List.mem_append.1 hs with hs | hs
                · exact HJ.out.sound s hs
                · obtain rfl : s = x := by simpa using hs
                  exact mem_missL.2 ⟨⟨p, HP.out, List.mem_iff_getElem?.2 ⟨j, HX.out⟩⟩, HF.out⟩
              · intro s hs
                exact List.mem_append.2 (.inl (HJ.out.old s hs))
              · intro s hs hno
                rw [htk.out, List.mem_append] at hs
                rcases hs with hs | hs
                · exact List.mem_append.2 (.inl (HJ.out.full s hs hno))
                · exact List.mem_append.2 (.inr hs)
              · have := HJ.out.len
                simp
                omega
              · intro s hs
                rcases List.mem_append.1 hs with hs | hs
                · exact HJ.out.size s hs
                · obtain rfl : s = x := by simpa using hs
                  exact HXS.out
            case measure => simp [intOf]; omega
        · obtain rfl : j = n2 := by omega
          have hIn : Box (MissI ps kvs (l1 ++ l2) acc') := ⟨⟨HJ.out.sound, fun q hq => ?_, ?_, HJ.out.size⟩⟩
          · go_wp2_with fail
            go_roundg (l1 ++ l2).length
            case measure => simp
            case rel => exact ⟨l1 ++ l2, acc', rfl, HR, HB, HO, hIn⟩
          · rcases HI.out.full q hq with ⟨v, hv⟩ | h
            · simp only [List.mem_append, List.mem_cons] at hv ⊢
              rcases hv with hv | hv | hv
              · exact .inl ⟨v, .inl hv⟩
              · injection hv with e1 e2
                have hqp : q = p := nodup_map_of HN.out hq HP.out e1
                subst hqp
                exact .inr (fun s hs hno => HJ.out.full s (by rw [List.take_of_length_le (by rw [HSL.out.len]; exact Nat.le_refl _)]; exact hs) hno)
              · exact .inl ⟨v, .inr hv⟩
            · exact .inr (fun s hs hno => HJ.out.old s (h s hs hno))
          · have h1 := HI.out.len
            have h2 := HJ.out.len
            simp only [List.length_append, List.length_cons] at h1 ⊢
            omega
end Go.Proofs.Ytchhjldopecliaa
namespace Go.Proofs.Ytchhjldopecliaa
open Go.RowKit

/-- Modules that Validate lets in. -/
structure Good (ms : List Md) : Prop where
  fits : ∀ m ∈ ms, misfit m = false
  names : (namesOf ms).Nodup
  procs : (procsOf ms).Nodup
  total : sumL ms ≤ 100
  len : ms.length ≤ 32
  right : ∀ m ∈ ms, rightB m = true
  calls : ∀ m ∈ ms, ∀ l ∈ m.cl, l.length ≤ 100
theorem vld_good {ms : List Md} (h : vld ms = 0) : Good ms := by
  unfold vld at h
  split at h
  · cases h
  rename_i h1
  split at h
  · cases h
  rename_i h2
  split at h
  · cases h
  rename_i h3
  split at h
  · cases h
  rename_i h4
  simp only [largeB, longC, Bool.or_eq_true, decide_eq_true_eq, List.any_eq_true, not_or, not_exists, not_and, Nat.not_lt, Bool.not_eq_true, Bool.not_eq_eq_eq_not, Bool.not_true, Bool.not_eq_false] at h1 h2 h3 h4
  refine ⟨fun m hm => h3 m hm, Classical.not_not.1 h4.1, Classical.not_not.1 h4.2, ?_, ?_, fun m hm => h2 m hm, fun m hm l hl => ?_⟩
  · omega
  · omega
  · exact h1.1 m hm l hl
theorem prs_mem {ms : List Md} {p : Pc} (h : p ∈ prs ms) : ∃ m ∈ ms, ∃ i, i < m.pr.length ∧ p = pcOf m i := by
  obtain ⟨m, hm, hp⟩ := List.mem_flatMap.1 h
  obtain ⟨i, hi, rfl⟩ := List.mem_map.1 hp
  exact ⟨m, hm, i, List.mem_range.1 hi, rfl⟩
theorem Good.fit {ms : List Md} (h : Good ms) {m : Md} (hm : m ∈ ms) : m.sz.length = m.pr.length ∧ m.cl.length = m.pr.length := by
  have := h.fits m hm
  unfold misfit at this
  simpa using this
theorem Good.pcalls {ms : List Md} (h : Good ms) {p : Pc} (hp : p ∈ prs ms) : p.cl.length ≤ 100 := by
  obtain ⟨m, hm, i, hi, rfl⟩ := prs_mem hp
  have hl : i < m.cl.length := by rw [(h.fit hm).2]; exact hi
  have : (pcOf m i).cl = m.cl[i] := getD_some (List.getElem?_eq_getElem hl)
  rw [this]
  exact h.calls m hm _ (List.getElem_mem hl)
theorem Good.nms {ms : List Md} (h : Good ms) : ((prs ms).map (·.nm)).Nodup := by rw [prs_nm]; exact h.procs
theorem Good.plen {ms : List Md} (h : Good ms) : (prs ms).length ≤ 100 := by rw [prs_length]; exact h.total

theorem ret2i {v : Value} {a b : Int} (h : a = b) : Ending.returned (.tuple #[v, .int .i64 a]) = .returned (.tuple #[v, .int .i64 b]) := by rw [h]
/-- What open tells. -/
def opn (ms : List Md) : Int := if vld ms ≠ 0 then vld ms else if 0 < (missS (prs ms)).length then 4 else 0
def opf (ms : List Md) (x : Str) : Int := if opn ms ≠ 0 then opn ms else if fnd x (prs ms) = none then 4 else 0

set_option maxHeartbeats 1000000 in
theorem c_open (A : Option Addr) (n c : Nat) (ms : List Md) (w : World) (h : SlR w 5 RMd A n c ms) :
    Calls Try.prog 62 #[.slice A n c] w fun e w' => (∃ v, e = .returned (.tuple #[v, .int .i64 (opn ms)]) ∧ (opn ms = 0 → Good ms ∧ ∃ b, v = .map (some b) ∧ MapP w' b (prs ms) ∧ w.heap.size ≤ b)) ∧ Below w.heap.size w w' := by
  have hlim := h.lim
  have H := Box.mk h
  clear h
  go_enter Try.func62, Try.ntmps62
  go_wp2_with fail
  refine (c_Validate A n c ms w H.out).mono ?_
  rintro e w1 ⟨rfl, hb1⟩
  have HB1 := Box.mk hb1
  clear hb1
  generalize hv : vld ms = V
  by_cases h0 : V = 0
  · subst h0
    have HG := Box.mk (vld_good hv)
    have HV := Box.mk hv
    clear hv
    go_wp2_with fail
    refine (c_procs A n c ms w1 (H.out.below mono_md HB1.out) HG.out.fits HG.out.procs).mono ?_
    rintro e w2 ⟨b, rfl, hm, hbl, hb2⟩
    have HM := Box.mk hm
    have HBL := Box.mk hbl
    have HB2 := Box.mk (below_tr HB1.out HB1.out.size hb2)
    clear hm hbl hb2
    go_wp2_with fail
    refine (c_missing b (prs ms) w2 HM.out HG.out.nms HG.out.plen (fun p hp => HG.out.pcalls hp)).mono ?_
    rintro e w3 ⟨A', c', rfl, hs, hb3⟩
    have HB3 := Box.mk (below_tr HB2.out HB2.out.size hb3)
    have HM3 := Box.mk (HM.out.below hb3)
    have hl := hs.lim
    clear hs hb3
    have HO : Box (opn ms = if 0 < (missS (prs ms)).length then 4 else 0) := ⟨by simp [opn, HV.out]⟩
    generalize (missS (prs ms)).length = q at *
    by_cases hq : 0 < q
    · go_wp2_with fail
      go_ret2
      refine ⟨⟨_, ret2i (by rw [HO.out, if_pos hq]), fun h => ?_⟩, HB3.out⟩
      rw [HO.out, if_pos hq] at h
      cases h
    · go_wp2_with fail
      go_ret2
      exact ⟨⟨_, ret2i (by rw [HO.out, if_neg hq]), fun _ => ⟨HG.out, b, rfl, HM3.out, by have := HBL.out; have := HB1.out.size; omega⟩⟩, HB3.out⟩
  · have HO : Box (opn ms = V) := ⟨by simp [opn, hv, h0]⟩
    have HN := Box.mk h0
    have h0' : ¬ ((V : Int) == 0) = true := by simpa using h0
    clear hv
    go_wp2_with fail
    go_ret2
    exact ⟨⟨_, ret2i (by rw [HO.out]), fun h => absurd (HO.out ▸ h) HN.out⟩, HB1.out⟩

set_option maxHeartbeats 1000000 in
theorem c_openFrom (A : Option Addr) (n c : Nat) (ms : List Md) (x : Str) (w : World) (h : SlR w 5 RMd A n c ms) :
    Calls Try.prog 45 #[.slice A n c, .string x] w fun e w' => (∃ v, e = .returned (.tuple #[v, .int .i64 (opf ms x)]) ∧ (opf ms x = 0 → opn ms = 0 ∧ Good ms ∧ (∃ p, fnd x (prs ms) = some p) ∧ ∃ b, v = .map (some b) ∧ MapP w' b (prs ms) ∧ w.heap.size ≤ b)) ∧ Below w.heap.size w w' := by
  have hlim := h.lim
  have H := Box.mk h
  clear h
  go_enter Try.func45, Try.ntmps45
  go_wp2_with fail
  refine (c_open A n c ms w H.out).mono ?_
  rintro e w1 ⟨⟨v, rfl, hv⟩, hb1⟩
  have HB1 := Box.mk hb1
  clear hb1
  generalize ho : opn ms = V at *
  by_cases h0 : V = 0
  · subst h0
    obtain ⟨hg, b, rfl, ⟨kvs, hk, hpv⟩, hbl⟩ := hv rfl
    have HG := Box.mk hg
    have HM := Box.mk (show MapP w1 b (prs ms) from ⟨kvs, hk, hpv⟩)
    have HBL := Box.mk hbl
    have HV := Box.mk ho
    have HO : Box (opf ms x = if fnd x (prs ms) = none then 4 else 0) := ⟨by simp [opf, ho]⟩
    clear ho hv hg hbl
    generalize hf : fnd x (prs ms) = F at *
    cases F with
    | none =>
      have hlk : (Instr.lookup 57 (.map (some b)) (.string x) true).run Try.prog w1 = .ok (.tuple #[.agg #[.int .i64 0, .slice none 0 0], .bool false]) w1 := (hk.look keyS Try.underlying57 (zero_proc w1) (hpv.get_none hf)).2
      clear hk hpv hf
      go_wp2_with fail
      go_ret2
      refine ⟨⟨_, ret2i (by simp [HO.out]), fun h => ?_⟩, bel_alloc2 HB1.out _⟩
      simp [HO.out] at h
    | some q =>
      obtain ⟨v, hv, A7, n7, c7, rfl, hq⟩ := hpv.get_some hf
      have hlk : (Instr.lookup 57 (.map (some b)) (.string x) true).run Try.prog w1 = .ok (.tuple #[.agg #[.int .i64 q.ov, .slice A7 n7 c7], .bool true]) w1 := (hk.look keyS Try.underlying57 (zero_proc w1) hv).2
      have HF := Box.mk hf
      clear hk hpv hf hv hq
      go_wp2_with fail
      go_ret2
      exact ⟨⟨_, ret2i (by simp [HO.out]), fun h => ⟨HV.out, HG.out, ⟨q, HF.out⟩, b, rfl, HM.out.below (bel_alloc _ _), HBL.out⟩⟩, bel_alloc2 HB1.out _⟩
  · have HO : Box (opf ms x = V) := ⟨by simp [opf, ho, h0]⟩
    have HN := Box.mk h0
    have h0' : ¬ ((V : Int) == 0) = true := by simpa using h0
    clear ho hv
    go_wp2_with fail
    go_ret2
    exact ⟨⟨_, ret2i (by rw [HO.out]), fun h => absurd (HO.out ▸ h) HN.out⟩, HB1.out⟩
end Go.Proofs.Ytchhjldopecliaa
