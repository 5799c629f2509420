/-
How a module (name, overlay, procedures, sizes, calls) lies in a world. No conditions.
-/
import Derived.Test.YtchhjldopecliaaB2
namespace Go.Proofs.Ytchhjldopecliaa
open Go.RowKit

/-- A module. -/
structure Md where
  nm : Str
  ov : Int
  pr : List Str
  sz : List Int
  cl : List (List Str)

def RMd : World → Md → List Value → Prop := fun w m cs => ∃ A1 n1 c1 A2 n2 c2 A3 n3 c3, cs = [.string m.nm, .int .i64 m.ov, .slice A1 n1 c1, .slice A2 n2 c2, .slice A3 n3 c3] ∧
  m.nm.size ≤ LIM ∧ SlR w 1 RStr A1 n1 c1 m.pr ∧ SlR w 1 RInt A2 n2 c2 m.sz ∧ SlR w 1 (RSl 1 RStr) A3 n3 c3 m.cl
theorem mono_md : Mono RMd := by
  rintro w w' m cs hb ⟨A1, n1, c1, A2, n2, c2, A3, n3, c3, e, h0, h1, h2, h3⟩
  exact ⟨A1, n1, c1, A2, n2, c2, A3, n3, c3, e, h0, h1.below mono_str hb, h2.below mono_int hb, h3.below (mono_sl mono_str) hb⟩

/-- A module's parts, as a module's cells tell them. -/
structure MdIs (w : World) (m : Md) (A1 : Option Addr) (n1 c1 : Nat) (A2 : Option Addr) (n2 c2 : Nat) (A3 : Option Addr) (n3 c3 : Nat) : Prop where
  nm : m.nm.size ≤ LIM
  pr : SlR w 1 RStr A1 n1 c1 m.pr
  sz : SlR w 1 RInt A2 n2 c2 m.sz
  cl : SlR w 1 (RSl 1 RStr) A3 n3 c3 m.cl
theorem MdIs.below {w w' : World} {m : Md} {A1 : Option Addr} {n1 c1 : Nat} {A2 : Option Addr} {n2 c2 : Nat} {A3 : Option Addr} {n3 c3 : Nat}
    (h : MdIs w m A1 n1 c1 A2 n2 c2 A3 n3 c3) (hb : Below w.heap.size w w') : MdIs w' m A1 n1 c1 A2 n2 c2 A3 n3 c3 :=
  ⟨h.nm, h.pr.below mono_str hb, h.sz.below mono_int hb, h.cl.below (mono_sl mono_str) hb⟩

theorem SlR.md_at {w : World} {A : Option Addr} {n c : Nat} {xs : List Md} (h : SlR w 5 RMd A n c xs) (k : Nat) (hk : k < n) :
    ∃ b off m A1 n1 c1 A2 n2 c2 A3 n3 c3, A = some ⟨b, off, none⟩ ∧ b < w.heap.size ∧ xs[k]? = some m ∧ MdIs w m A1 n1 c1 A2 n2 c2 A3 n3 c3 ∧
      w.cell? ⟨b, off + k * 5, none⟩ = some (.string m.nm) ∧ w.cell? ⟨b, off + k * 5 + 1, none⟩ = some (.int .i64 m.ov) ∧ w.cell? ⟨b, off + k * 5 + 2, none⟩ = some (.slice A1 n1 c1) ∧
      w.cell? ⟨b, off + k * 5 + 3, none⟩ = some (.slice A2 n2 c2) ∧ w.cell? ⟨b, off + k * 5 + 4, none⟩ = some (.slice A3 n3 c3) := by
  obtain ⟨b, off, x, cs, e, hlt, hx, hl, ⟨A1, n1, c1, A2, n2, c2, A3, n3, c3, rfl, h0, h1, h2, h3⟩, hc⟩ := h.at_ k hk
  exact ⟨b, off, x, A1, n1, c1, A2, n2, c2, A3, n3, c3, e, hlt, hx, ⟨h0, h1, h2, h3⟩, by simpa using hc 0 _ rfl, hc 1 _ rfl, hc 2 _ rfl, hc 3 _ rfl, hc 4 _ rfl⟩
end Go.Proofs.Ytchhjldopecliaa
