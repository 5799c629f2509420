/-
How slices of plain cells, texts and numbers are read in a world, and that later worlds keep them. No conditions.
-/
import Derived.WalkKit
import Derived.WalkSpells
import Derived.WalkLawsBesides
import Derived.Lib.ConvBytes
import Derived.Deep.DeepCutAuto
import Derived.Deep.CutBlock
import Derived.Deep.LoopGhost
import Derived.Deep.QuietTactic
import Derived.BigQuiet
import Derived.KernelRfl
namespace Go.Proofs.Ytchhjldopecliaa
open Go.RowKit

/-- A fact that the walk's simp does not look into. -/
structure Box (p : Prop) : Prop where mk :: (out : p)

abbrev Str := ByteArray

/-- A bound on lengths. -/
def LIM : Nat := 140737488351232
theorem LIM_eq : LIM = 140737488351232 := rfl

/-- How a value relation lives on in later worlds. -/
def Mono {α : Type} (R : World → α → List Value → Prop) : Prop := ∀ w w' x cs, Below w.heap.size w w' → R w x cs → R w' x cs

/-- A slice that is read: its elements are sz cells each. -/
def SlR {α : Type} (w : World) (sz : Nat) (R : World → α → List Value → Prop) (A : Option Addr) (n c : Nat) (xs : List α) : Prop :=
  xs.length = n ∧ n ≤ c ∧ n ≤ LIM ∧
    (0 < n → ∃ b off, A = some ⟨b, off, none⟩ ∧ b < w.heap.size ∧
      ∀ i x, xs[i]? = some x → ∃ cs, cs.length = sz ∧ R w x cs ∧ ∀ j u, cs[j]? = some u → w.cell? ⟨b, off + i * sz + j, none⟩ = some u)

def RStr : World → Str → List Value → Prop := fun _ s cs => cs = [.string s] ∧ s.size ≤ LIM
def RInt : World → Int → List Value → Prop := fun _ x cs => cs = [.int .i64 x]
def RBool : World → Bool → List Value → Prop := fun _ x cs => cs = [.bool x]
def RSl {α : Type} (sz : Nat) (R : World → α → List Value → Prop) : World → List α → List Value → Prop :=
  fun w xs cs => ∃ A n c, cs = [.slice A n c] ∧ SlR w sz R A n c xs

theorem mono_str : Mono RStr := fun _ _ _ _ _ h => h
theorem mono_int : Mono RInt := fun _ _ _ _ _ h => h
theorem mono_bool : Mono RBool := fun _ _ _ _ _ h => h
theorem SlR.below {α : Type} {w w' : World} {sz : Nat} {R : World → α → List Value → Prop} {A : Option Addr} {n c : Nat} {xs : List α}
    (h : SlR w sz R A n c xs) (hR : Mono R) (hb : Below w.heap.size w w') : SlR w' sz R A n c xs := by
  obtain ⟨h1, h2, h3, h4⟩ := h
  refine ⟨h1, h2, h3, fun hn => ?_⟩
  obtain ⟨b, off, e, hlt, hc⟩ := h4 hn
  refine ⟨b, off, e, Nat.lt_of_lt_of_le hlt hb.size, fun i x hx => ?_⟩
  obtain ⟨cs, hl, hr, hcell⟩ := hc i x hx
  exact ⟨cs, hl, hR _ _ _ _ hb hr, fun j u hu => (hb.cell (p := ⟨b, off + i * sz + j, none⟩) hlt).trans (hcell j u hu)⟩
theorem mono_sl {α : Type} {sz : Nat} {R : World → α → List Value → Prop} (hR : Mono R) : Mono (RSl sz R) := by
  rintro w w' xs cs hb ⟨A, n, c, e, h⟩
  exact ⟨A, n, c, e, h.below hR hb⟩
theorem SlR.len {α : Type} {w : World} {sz : Nat} {R : World → α → List Value → Prop} {A : Option Addr} {n c : Nat} {xs : List α}
    (h : SlR w sz R A n c xs) : xs.length = n := h.1
theorem SlR.lim {α : Type} {w : World} {sz : Nat} {R : World → α → List Value → Prop} {A : Option Addr} {n c : Nat} {xs : List α}
    (h : SlR w sz R A n c xs) : n ≤ 140737488351232 := h.2.2.1
theorem SlR.at_ {α : Type} {w : World} {sz : Nat} {R : World → α → List Value → Prop} {A : Option Addr} {n c : Nat} {xs : List α}
    (h : SlR w sz R A n c xs) (k : Nat) (hk : k < n) : ∃ b off x cs, A = some ⟨b, off, none⟩ ∧ b < w.heap.size ∧ xs[k]? = some x ∧ cs.length = sz ∧ R w x cs ∧
      ∀ j u, cs[j]? = some u → w.cell? ⟨b, off + k * sz + j, none⟩ = some u := by
  obtain ⟨h1, h2, h3, h4⟩ := h
  obtain ⟨b, off, e, hlt, hc⟩ := h4 (by omega)
  have hx : xs[k]? = some (xs[k]'(by omega)) := List.getElem?_eq_getElem (by omega)
  obtain ⟨cs, hl, hr, hcell⟩ := hc k _ hx
  exact ⟨b, off, _, cs, e, hlt, hx, hl, hr, hcell⟩
theorem SlR.str_at {w : World} {A : Option Addr} {n c : Nat} {xs : List Str}
    (h : SlR w 1 RStr A n c xs) (k : Nat) (hk : k < n) : ∃ b off x, A = some ⟨b, off, none⟩ ∧ b < w.heap.size ∧ xs[k]? = some x ∧ x.size ≤ LIM ∧ w.cell? ⟨b, off + k, none⟩ = some (.string x) := by
  obtain ⟨b, off, x, cs, e, hlt, hx, hl, ⟨rfl, hs⟩, hc⟩ := h.at_ k hk
  exact ⟨b, off, x, e, hlt, hx, hs, by simpa using hc 0 _ rfl⟩
theorem SlR.int_at {w : World} {A : Option Addr} {n c : Nat} {xs : List Int}
    (h : SlR w 1 RInt A n c xs) (k : Nat) (hk : k < n) : ∃ b off x, A = some ⟨b, off, none⟩ ∧ b < w.heap.size ∧ xs[k]? = some x ∧ w.cell? ⟨b, off + k, none⟩ = some (.int .i64 x) := by
  obtain ⟨b, off, x, cs, e, hlt, hx, hl, hr, hc⟩ := h.at_ k hk
  have hr : cs = [Value.int .i64 x] := hr
  subst hr
  exact ⟨b, off, x, e, hlt, hx, by simpa using hc 0 _ rfl⟩
theorem SlR.sl_at {α : Type} {sz : Nat} {R : World → α → List Value → Prop} {w : World} {A : Option Addr} {n c : Nat} {xs : List (List α)}
    (h : SlR w 1 (RSl sz R) A n c xs) (k : Nat) (hk : k < n) : ∃ b off x A' n' c', A = some ⟨b, off, none⟩ ∧ b < w.heap.size ∧ xs[k]? = some x ∧
      w.cell? ⟨b, off + k, none⟩ = some (.slice A' n' c') ∧ SlR w sz R A' n' c' x := by
  obtain ⟨b, off, x, cs, e, hlt, hx, hl, ⟨A', n', c', rfl, hs⟩, hc⟩ := h.at_ k hk
  exact ⟨b, off, x, A', n', c', e, hlt, hx, by simpa using hc 0 _ rfl, hs⟩

/-! ### small facts -/
theorem below_bytes {w0 w : World} (h : Below w0.heap.size w0 w) (e : TypeId) (s : ByteArray) : Below w0.heap.size w0 (Lib.bytesWorld w e s) :=
  h.trans ⟨rfl, rfl, rfl, by rw [Lib.bytesWorld_size]; omega, fun i hi => Lib.bytesWorld_at_old w e s i (by have := h.size; omega)⟩
theorem below_tr {B : Nat} {w w1 w2 : World} (h : Below B w w1) (hB : B ≤ w1.heap.size) (k : Below w1.heap.size w1 w2) : Below B w w2 :=
  h.trans (k.mono hB)
theorem below_gb {w w1 : World} (h : Below w.heap.size w w1) (row : Option Nat) : w.grownBy w1 row := ⟨h.os, h.tape, h.output, h.size, fun i hi _ => h.block i hi⟩
theorem bel_alloc (w : World) (o : Obj) : Below w.heap.size w (w.alloc o) := (Below.refl _ _).alloc (Nat.le_refl _) o
theorem bel_alloc2 {w0 w : World} (h : Below w0.heap.size w0 w) (o : Obj) : Below w0.heap.size w0 (w.alloc o) := h.alloc h.size o
theorem cellk {B : Nat} {w w' : World} (hb : Below B w w') {b o : Nat} {v : Value} (hlt : b < B) (h : w.cell? ⟨b, o, none⟩ = some v) : w'.cell? ⟨b, o, none⟩ = some v := (hb.cell (p := ⟨b, o, none⟩) hlt).trans h
theorem ret_bool {a b : Bool} (h : a = b) : Ending.returned (.bool a) = .returned (.bool b) := by rw [h]
theorem ret_int {a b : Int} (h : a = b) : Ending.returned (.int .i64 a) = .returned (.int .i64 b) := by rw [h]

theorem vb {a b : Bool} (h : a = true ↔ b = true) : Value.bool a = .bool b := by rw [Bool.eq_iff_iff.2 h]
theorem rb {a b : Bool} (h : a = true ↔ b = true) : Ending.returned (.bool a) = .returned (.bool b) := by rw [Bool.eq_iff_iff.2 h]
theorem vi {k : IntKind} {a b : Int} (h : a = b) : Value.int k a = .int k b := by rw [h]

theorem bbeq (a b : ByteArray) : (a == b) = decide (a = b) := by
  cases a with | mk a => cases b with | mk b =>
  have : (ByteArray.mk a == ByteArray.mk b) = (a == b) := rfl
  rw [this, Bool.eq_iff_iff]
  simp

instance lawfulStr : LawfulBEq ByteArray where
  eq_of_beq {a b} h := by rw [bbeq] at h; simpa using h
  rfl {a} := by rw [bbeq]; simp
theorem tleq (a b : ByteArray) : (ByteArray.toList a == ByteArray.toList b) = decide (a = b) := by
  rw [ByteArray.toList_eq, ByteArray.toList_eq, Bool.eq_iff_iff]
  cases a; cases b
  simp
theorem tlne (a b : ByteArray) : (ByteArray.toList a != ByteArray.toList b) = !decide (a = b) := by rw [bne, tleq]

/-- The byte of a string at a place. -/
def bAt (s : ByteArray) (i : Nat) : Nat := (s.data.toList.getD i 0).toNat
theorem bAt_lt (s : ByteArray) (i : Nat) : bAt s i < 256 := (s.data.toList.getD i 0).toNat_lt
theorem bAt_get (s : ByteArray) (i : Nat) (h : i < s.size) : (s[i]'h).toNat = bAt s i := by
  unfold bAt
  have h' : i < s.data.toList.length := by simpa using h
  rw [List.getD_eq_getElem?_getD, List.getElem?_eq_getElem h']
  rfl
end Go.Proofs.Ytchhjldopecliaa
