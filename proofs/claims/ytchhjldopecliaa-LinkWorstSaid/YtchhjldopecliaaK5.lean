/-
A region that draws: its head, waited for by a forced chain, is a walk of its own. No conditions.
A module that is trimmed, as its parts grow: three rows of one's own. No conditions.
What Trim computes. Condition: the argument is a slice of modules.
What the reference's Trim computes. Condition: the argument is a slice of modules.
That LinkReaches returns true. Condition: the arguments are a slice of modules and a text.
Modules trimmed to what is reached are as good as they were: in plain Lean. No conditions.
That LinkTrims returns true. Condition: the arguments are a slice of modules, a text and a slice of texts.
-/
import Derived.Test.YtchhjldopecliaaK4
import Derived.StillTail
import Derived.Deep.RegionHeld3
namespace Go.Proofs.Ytchhjldopecliaa
open Go

/-- What the head's walk ends in: the chain's list. -/
def headQ (P : Program) (ops : Array Oper) (tl : List Oper) (Q : Exit → Act → World → Prop) : Exit → Act → World → Prop
  | .normal, a, w => wpList P ops Q tl a w
  | e, a, w => Q e a w

/-- The head's operations have no guard and wait for elder ones alone. -/
def headB (l : List Oper) : Bool := l.zipIdx.all fun (o, i) => o.guard.isNone && o.after.all fun e => !Region.binds .any e || decide (e.on < i)

section
variable {P : Program} {Q : Exit → Act → World → Prop}

theorem letsOut_headQ {ops : Array Oper} {tl : List Oper} : LetsOut (headQ P ops tl Q) → LetsOut Q := fun ⟨a, w, h⟩ => ⟨a, w, h⟩

theorem operWp_headQ {ops : Array Oper} {tl : List Oper} {o : Oper} {a : Act} {w : World} {K : Act → World → Prop} (h : o.wp P a w K (headQ P ops tl Q)) : o.wp P a w K Q := by
  unfold Oper.wp at *
  generalize (execOp a.eval o).run P w = r at *
  cases r with
  | ok n w' =>
    cases n <;> simp only [Oper.upon] at h ⊢ <;> first
      | exact h
      | exact Calls.mono h (fun e w'' he => by cases e <;> first | exact he | exact letsOut_headQ he)
  | halt x w' => cases x <;> simp only [Oper.upon] at h ⊢ <;> exact h

theorem wanted_noGuard {o : Oper} {f : Nat → Option Bool} (h : o.guard.isNone = true) : Region.wanted o f = true := by
  unfold Region.wanted
  cases hg : o.guard with
  | none => rfl
  | some g => rw [hg] at h; cases h

theorem wpAny_more {md : Region.Mode} {ops : Array Oper} : ∀ (f : Nat) (listed : Array Bool) (a : Act) (w : World), wpAny P md ops Q f listed a w → wpAny P md ops Q (f + 1) listed a w
  | 0, listed, a, w, h => ⟨fun _ => h.2, fun i hi => by rw [h.1] at hi; cases hi⟩
  | f + 1, listed, a, w, h => ⟨h.1, fun i hi => wpOp_mono (fun a' w' h' => wpAny_more f _ a' w' h') (h.2 i hi)⟩

theorem wpAny_plus {md : Region.Mode} {ops : Array Oper} (g : Nat) {listed : Array Bool} {a : Act} {w : World} (h : wpAny P md ops Q g listed a w) : ∀ f, wpAny P md ops Q (f + g) listed a w
  | 0 => by rw [Nat.zero_add]; exact h
  | f + 1 => by rw [show f + 1 + g = (f + g) + 1 by omega]; exact wpAny_more _ _ _ _ (wpAny_plus g h f)

/-- The whole region's marks from the head's. -/
def wide (L : Array Bool) (m : Nat) : Array Bool := L ++ Array.replicate m false

theorem wide_lt {L : Array Bool} {m i : Nat} {d : Bool} (h : i < L.size) : (wide L m).getD i d = L.getD i d := by
  simp [wide, Array.getElem?_append, h]
theorem wide_ge {L : Array Bool} {m i : Nat} (h : L.size ≤ i) (h2 : i < L.size + m) : (wide L m).getD i true = false := by
  have hn : ¬ i < L.size := by omega
  simp [wide, Array.getElem?_append, hn, show i - L.size < m by omega]
theorem wide_false {L : Array Bool} {m i : Nat} (h : L.size ≤ i) : (wide L m).getD i false = false := by
  have hn : ¬ i < L.size := by omega
  simp only [wide, Array.getD_eq_getD_getElem?, Array.getElem?_append, hn, if_false]
  rcases Nat.lt_or_ge (i - L.size) m with h1 | h1
  · simp [h1]
  · simp [Nat.not_lt.2 h1]
theorem wide_set {L : Array Bool} {m i : Nat} (h : i < L.size) : (wide L m).setIfInBounds i true = wide (L.setIfInBounds i true) m := by
  unfold wide
  apply Array.ext
  · simp
  · intro j h1 h2
    rw [Array.getElem_setIfInBounds (by simpa using h1)]
    by_cases hj : j < L.size
    · rw [Array.getElem_append_left hj, Array.getElem_append_left (by simpa using hj), Array.getElem_setIfInBounds hj]
    · have : i ≠ j := by omega
      rw [if_neg this, Array.getElem_append_right (by omega), Array.getElem_append_right (by simp; omega)]
      simp

theorem headB_at {l : List Oper} (h : headB l = true) {i : Nat} {o : Oper} (hi : l[i]? = some o) : o.guard.isNone = true ∧ ∀ e ∈ o.after, Region.binds .any e = true → e.on < i := by
  have h1 := List.all_eq_true.1 h (o, i) (by rw [List.mem_zipIdx_iff_getElem?]; simpa using hi)
  simp only [Bool.and_eq_true] at h1
  refine ⟨h1.1, fun e he hb => ?_⟩
  have h2 := Array.all_eq_true_iff_forall_mem.1 h1.2 e he
  simpa [hb] using h2

/-- When nothing is ready in the head, all of it has come up. -/
theorem head_all {l : List Oper} (h : headB l = true) {L : Array Bool} (hL : L.size = l.length) (hr : Region.ready .any l.toArray L = []) : ∀ i, i < l.length → L.getD i true = true := by
  intro i
  induction i using Nat.strongRecOn with
  | _ i ih =>
    intro hi
    cases hu : L.getD i true with
    | true => rfl
    | false =>
      exfalso
      have : i ∈ Region.ready .any l.toArray L := by
        rw [mem_ready]
        refine ⟨hu, l[i], by simp [hi], fun e he hb => ?_⟩
        have h1 := (headB_at h (List.getElem?_eq_getElem hi)).2 e he hb
        have h2 := ih e.on h1 (by omega)
        simp [show e.on < L.size by omega] at h2 ⊢
        exact h2
      rw [hr] at this; cases this

theorem wide_all {L : Array Bool} {n m : Nat} (hL : L.size = n) (h : ∀ i, i < n → L.getD i true = true) : wide L m = wide (Array.replicate n true) m := by
  have : L = Array.replicate n true := by
    apply Array.ext
    · simp [hL]
    · intro i h1 h2
      have := h i (by omega)
      simp [h1] at this ⊢
      exact this
  rw [this]

theorem wpAny_wide {l : List Oper} {n : Nat} (hn : n < l.length) (hB : headB (l.take n) = true) (hs : Region.sinkB .any l.toArray n = true) (hc : Region.chainB .any l.toArray n = true)
    (hq : Region.seqB .any l.toArray (l.length - n) n (wide (Array.replicate n true) (l.length - n)) = true) :
    ∀ (f : Nat) (L : Array Bool) (a : Act) (w : World), L.size = n → HeadInv .any l.toArray n (wide L (l.length - n)) →
      wpAny P .any (l.take n).toArray (headQ P l.toArray (l.drop n) Q) f L a w → wpAny P .any l.toArray Q (f + (l.length - n)) (wide L (l.length - n)) a w := by
  have htl : (l.take n).length = n := by simp; omega
  have fin : ∀ (L : Array Bool) (a : Act) (w : World), L.size = n → Region.ready .any (l.take n).toArray L = [] → wpList P l.toArray Q (l.drop n) a w →
      wpAny P .any l.toArray Q (l.length - n) (wide L (l.length - n)) a w := fun L a w hL hr h => by
    rw [wide_all hL (fun i hi => head_all hB (by rw [htl]; exact hL) hr i (by rw [htl]; exact hi))]
    have := wpAny_of_seq (md := .any) (Q' := Q) (l.drop n) n (wide (Array.replicate n true) (l.length - n)) a w (fun j => by simp [List.getElem?_drop]) (by rw [List.length_drop]; exact hq) h
    rwa [List.length_drop] at this
  intro f
  induction f with
  | zero => intro L a w hL _ h; rw [Nat.zero_add]; exact fin L a w hL h.1 h.2
  | succ f ih =>
    intro L a w hL inv h
    by_cases hr : Region.ready .any (l.take n).toArray L = []
    · exact wpAny_plus _ (fin L a w hL hr (h.1 hr)) (f + 1)
    · -- some head operation is to come
      obtain ⟨i0, hi0⟩ := List.exists_mem_of_ne_nil _ hr
      obtain ⟨hu0, o0, ho0, _⟩ := mem_ready.1 hi0
      have hi0n : i0 < n := by have := (Array.getElem?_eq_some_iff.1 ho0).1; simp at this; omega
      have hready : ∀ i, i ∈ Region.ready .any l.toArray (wide L (l.length - n)) ↔ i ∈ Region.ready .any (l.take n).toArray L := by
        intro i
        constructor
        · intro hi
          have hin : i < n := by
            rcases Nat.lt_or_ge i n with h1 | h1
            · exact h1
            · exact absurd hi (tail_waits hs hc (by simpa using hn) inv _ i0 rfl hi0n (by rw [wide_lt (by omega)]; exact hu0) i h1)
          obtain ⟨hu, o, ho, hall⟩ := mem_ready.1 hi
          refine mem_ready.2 ⟨by rw [wide_lt (by omega)] at hu; exact hu, o, by simpa [List.getElem?_take, hin] using ho, fun e he hb => ?_⟩
          have h1 := (headB_at hB (i := i) (o := o) (by simpa [List.getElem?_take, hin] using ho)).2 e he hb
          have h2 := hall e he hb
          rwa [wide_lt (by omega)] at h2
        · intro hi
          obtain ⟨hu, o, ho, hall⟩ := mem_ready.1 hi
          have hin : i < n := by have := (Array.getElem?_eq_some_iff.1 ho).1; simp at this; omega
          refine mem_ready.2 ⟨by rw [wide_lt (by omega)]; exact hu, o, by simpa [List.getElem?_take, hin] using ho, fun e he hb => ?_⟩
          have h1 := (headB_at hB (i := i) (o := o) (by simpa [List.getElem?_take, hin] using ho)).2 e he hb
          rw [wide_lt (by omega)]; exact hall e he hb
      rw [show f + 1 + (l.length - n) = (f + (l.length - n)) + 1 by omega]
      refine ⟨fun h0 => absurd ((hready i0).2 hi0) (by rw [h0]; simp), fun i hi => ?_⟩
      have hi' := (hready i).1 hi
      obtain ⟨_, o, ho, _⟩ := mem_ready.1 hi'
      have hin : i < n := by have := (Array.getElem?_eq_some_iff.1 ho).1; simp at this; omega
      have hof : l.toArray[i]? = some o := by simpa [List.getElem?_take, hin] using ho
      have hg := (headB_at hB (i := i) (o := o) (by simpa [List.getElem?_take, hin] using hof)).1
      have h1 := h.2 i hi'
      unfold wpOp at h1 ⊢
      simp only [ho, hof, wanted_noGuard hg, if_true] at h1 ⊢
      rw [wide_set (by omega)]
      have inv' : HeadInv .any l.toArray n (wide (L.setIfInBounds i true) (l.length - n)) := by rw [← wide_set (by omega)]; exact inv.set hi hin
      rcases h1 with h1 | ⟨h1, h2⟩
      · exact .inl (operWp_headQ (Oper.wp_mono (fun a' w' h' => ih _ a' w' (by simpa using hL) inv' h') h1))
      · exact .inr ⟨h1, letsOut_headQ h2⟩

/-- All that the split asks of the region, as one Bool. -/
def splitB (l : List Oper) (n : Nat) : Bool :=
  decide (n < l.length) && headB (l.take n) && Region.sinkB .any l.toArray n && Region.chainB .any l.toArray n && Region.seqB .any l.toArray (l.length - n) n (wide (Array.replicate n true) (l.length - n))

/-- **The head's walk under S, then the chain's list.** -/
theorem wp_region_head {id : Nat} {a : Act} {w : World} {l hd tl : List Oper} {S : World → Prop} (n : Nat) (hm : P.follows .mixedOrders = true) (hB : splitB l n = true)
    (hhd : l.take n = hd) (htl : l.drop n = tl) (hS : S w.drew)
    (h : S w.drew → wpAnyH P .any hd.toArray (headQ P l.toArray tl Q) S n (Array.replicate n false) a w.drew) : (Code.region id l.toArray true).wp P Q a w := by
  subst hhd htl
  simp only [splitB, Bool.and_eq_true, decide_eq_true_eq] at hB
  obtain ⟨⟨⟨⟨hn, hH⟩, hs⟩, hc⟩, hq⟩ := hB
  have hw : wide (Array.replicate n false) (l.length - n) = Array.replicate l.toArray.size false := by
    simp only [wide, Array.replicate_append_replicate, List.size_toArray]; congr 1; omega
  refine wp_region_any hm ?_
  have := wpAny_wide (P := P) (Q := Q) hn hH hs hc hq n (Array.replicate n false) a w.drew (by simp) (by
    rw [hw]
    exact ⟨by simp, fun j oj _ hl => (by rw [getD_replicate_false] at hl; cases hl), fun t _ ht => getD_in (by simpa using ht) (getD_replicate_false _ _)⟩) (wpAny_of_held _ _ _ _ (h hS))
  rw [hw, show n + (l.length - n) = l.toArray.size by simp; omega] at this
  exact this
end
end Go.Proofs.Ytchhjldopecliaa
namespace Go.Proofs.Ytchhjldopecliaa
open Go.RowKit

/-- The blocks in which the kept procedures' calls lie. -/
def okT (p : Nat) (u1 u2 u3 : Value) (b : Nat) : Prop := p < b ∧ some b ≠ u1.ownBlock ∧ some b ≠ u2.ownBlock ∧ some b ≠ u3.ownBlock

structure TrI (p : Nat) (w0 : World) (nm : Str) (ov : Int) (s1 s2 s3 : Value) (W : World) (u1 u2 u3 : Value) (ys : List Str) (zs : List Int) (cs : List (List Str)) : Prop where
  o1 : W.ownsRow (p + 1) 9 1 u1 ys.length (ys.map Value.string)
  o2 : W.ownsRow (p + 1) 3 1 u2 zs.length (zs.map (Value.int .i64))
  o3 : OwnO (okT p u1 u2 u3) W (p + 1) 23 1 (RSlO 1 RStrO) u3 cs
  a12 : Apart u1 u2
  a13 : Apart u1 u3
  a23 : Apart u2 u3
  md : MdB W p nm ov s1 s2 s3
  bel : w0.grownBy W (some p)
  sz : w0.heap.size = p + 1

section
variable {p : Nat} {w0 W wa : World} {nm : Str} {ov : Int} {s1 s2 s3 u1 u2 u3 v' : Value} {ys : List Str} {zs : List Int} {cs : List (List Str)}
theorem okT_app1 {L : Nat} (hat : v'.ownBlock = u1.ownBlock ∨ v'.ownBlock = some L) (b : Nat) (hb : b < L) (h : okT p u1 u2 u3 b) : okT p v' u2 u3 b := by
  refine ⟨h.1, fun e => ?_, h.2.2⟩
  rcases hat with e2 | e2
  · exact h.2.1 (e.trans e2)
  · rw [e2] at e; injection e with e; omega
theorem okT_app2 {L : Nat} (hat : v'.ownBlock = u2.ownBlock ∨ v'.ownBlock = some L) (b : Nat) (hb : b < L) (h : okT p u1 u2 u3 b) : okT p u1 v' u3 b := by
  refine ⟨h.1, h.2.1, fun e => ?_, h.2.2.2⟩
  rcases hat with e2 | e2
  · exact h.2.2.1 (e.trans e2)
  · rw [e2] at e; injection e with e; omega
theorem okT_app3 {L : Nat} (hat : v'.ownBlock = u3.ownBlock ∨ v'.ownBlock = some L) (b : Nat) (hb : b < L) (h : okT p u1 u2 u3 b) : okT p u1 u2 v' b := by
  refine ⟨h.1, h.2.1, h.2.2.1, fun e => ?_⟩
  rcases hat with e2 | e2
  · exact h.2.2.2 (e.trans e2)
  · rw [e2] at e; injection e with e; omega

theorem own_slice {w : World} {base sz n : Nat} {e : TypeId} {v : Value} {xs : List Value} (h : w.ownsRow base e sz v n xs) : ∃ A m c, v = .slice A m c := by
  rcases h.2 with ⟨rfl, _⟩ | ⟨g, cap, cur, rfl, _⟩
  · exact ⟨_, _, _, rfl⟩
  · exact ⟨_, _, _, rfl⟩
theorem OwnO.slice {α : Type} {ok : Nat → Prop} {w : World} {base sz : Nat} {e : TypeId} {RO : (Nat → Prop) → World → α → List Value → Prop} {v : Value} {xs : List α} (h : OwnO ok w base e sz RO v xs) : ∃ A m c, v = .slice A m c := by
  obtain ⟨css, h1, _⟩ := h
  exact own_slice h1
theorem TrI.grow (h : TrI p w0 nm ov s1 s2 s3 W u1 u2 u3 ys zs cs) (hg : ∀ row, W.grownBy wa row) : TrI p w0 nm ov s1 s2 s3 wa u1 u2 u3 ys zs cs :=
  ⟨h.o1.kept (hg none) (by cases u1.ownBlock <;> simp), h.o2.kept (hg none) (by cases u2.ownBlock <;> simp), h.o3.kept (rdSl rdStr) (hg none) (by cases u3.ownBlock <;> simp) (fun b e => by cases e), h.a12, h.a13, h.a23,
    h.md.kp (hg none) (by simp), grown_tr h.bel (hg (some p)), h.sz⟩
theorem TrI.alloc (h : TrI p w0 nm ov s1 s2 s3 W u1 u2 u3 ys zs cs) (o : Obj) : TrI p w0 nm ov s1 s2 s3 (W.alloc o) u1 u2 u3 ys zs cs := h.grow (fun row => World.grownBy_alloc W o row)
theorem TrI.clone (h : TrI p w0 nm ov s1 s2 s3 W u1 u2 u3 ys zs cs) (hb : Below W.heap.size W wa) : TrI p w0 nm ov s1 s2 s3 wa u1 u2 u3 ys zs cs := h.grow (fun row => below_gb hb row)
theorem TrI.drew (h : TrI p w0 nm ov s1 s2 s3 W u1 u2 u3 ys zs cs) : TrI p w0 nm ov s1 s2 s3 W.drew u1 u2 u3 ys zs cs := h.grow (fun _ => ⟨rfl, rfl, rfl, Nat.le_refl _, fun _ _ _ => rfl⟩)
theorem TrI.hi (h : TrI p w0 nm ov s1 s2 s3 W u1 u2 u3 ys zs cs) : p + 1 ≤ W.heap.size := h.md.lt
theorem own_lo {w : World} {e : TypeId} {sz : Nat} {v : Value} {n : Nat} {xs : List Value} (h : w.ownsRow (p + 1) e sz v n xs) : some p ≠ v.ownBlock := fun e => by have := (h.lt p e.symm).1; omega
theorem TrI.below_own (h : TrI p w0 nm ov s1 s2 s3 W u1 u2 u3 ys zs cs) {row : Option Nat} (hg : W.grownBy wa row) (hr : ∀ q, row = some q → p < q) : w0.grownBy wa (some p) := by
  refine ⟨hg.os.trans h.bel.os, hg.tape.trans h.bel.tape, hg.output.trans h.bel.output, Nat.le_trans h.bel.size hg.size, fun i hi hne => ?_⟩
  rw [hg.block i (Nat.lt_of_lt_of_le hi h.bel.size) (fun e => by have := hr i e.symm; have := h.sz; omega), h.bel.block i hi hne]
theorem TrI.app1 (h : TrI p w0 nm ov s1 s2 s3 W u1 u2 u3 ys zs cs) {y : Str} (ho : wa.ownsRow (p + 1) 9 1 v' (ys.length + 1) (ys.map Value.string ++ [.string y])) (hg : W.grownBy wa u1.ownBlock) (hat : v'.ownBlock = u1.ownBlock ∨ v'.ownBlock = some W.heap.size) :
    TrI p w0 nm ov s1 s2 s3 wa v' u2 u3 (ys ++ [y]) zs cs := by
  refine ⟨by simpa using ho, own_other h.o2 hg h.a12.symm, ?_, h.a12.step (fun B e => (h.o2.lt B e).2) (Nat.le_refl _) hat, h.a13.step (fun B e => (h.o3.lt B e).2) (Nat.le_refl _) hat, h.a23, h.md.kp hg (own_lo h.o1), h.below_own hg (fun q hq => (h.o1.lt q hq).1), h.sz⟩
  have a1 := (h.o3.weak (rdSl rdStr) (ok' := fun b => okT p u1 u2 u3 b ∧ b < W.heap.size) (fun b hb h => ⟨h, hb⟩)).kept (rdSl rdStr) hg h.a13.symm (fun b e h => h.1.2.1 e.symm)
  exact a1.weak (rdSl rdStr) (fun b _ h => okT_app1 hat b h.2 h.1)
theorem TrI.app2 (h : TrI p w0 nm ov s1 s2 s3 W u1 u2 u3 ys zs cs) {z : Int} (ho : wa.ownsRow (p + 1) 3 1 v' (zs.length + 1) (zs.map (Value.int .i64) ++ [.int .i64 z])) (hg : W.grownBy wa u2.ownBlock) (hat : v'.ownBlock = u2.ownBlock ∨ v'.ownBlock = some W.heap.size) :
    TrI p w0 nm ov s1 s2 s3 wa u1 v' u3 ys (zs ++ [z]) cs := by
  refine ⟨own_other h.o1 hg h.a12, by simpa using ho, ?_, (Apart.step (L := W.heap.size) h.a12.symm (fun B e => (h.o1.lt B e).2) (Nat.le_refl _) hat).symm, h.a13, h.a23.step (fun B e => (h.o3.lt B e).2) (Nat.le_refl _) hat, h.md.kp hg (own_lo h.o2), h.below_own hg (fun q hq => (h.o2.lt q hq).1), h.sz⟩
  have a1 := (h.o3.weak (rdSl rdStr) (ok' := fun b => okT p u1 u2 u3 b ∧ b < W.heap.size) (fun b hb h => ⟨h, hb⟩)).kept (rdSl rdStr) hg h.a23.symm (fun b e h => h.1.2.2.1 e.symm)
  exact a1.weak (rdSl rdStr) (fun b _ h => okT_app2 hat b h.2 h.1)
theorem TrI.app3 (h : TrI p w0 nm ov s1 s2 s3 W u1 u2 u3 ys zs cs) : ∃ flat, W.ownsRow (p + 1) 23 1 u3 cs.length flat ∧
    ∀ (x : List Str) (s v' : Value) (wa : World), RSlO 1 RStrO (okT p u1 u2 u3) W x [s] → wa.ownsRow (p + 1) 23 1 v' (cs.length + 1) (flat ++ [s]) → W.grownBy wa u3.ownBlock → (v'.ownBlock = u3.ownBlock ∨ v'.ownBlock = some W.heap.size) →
      TrI p w0 nm ov s1 s2 s3 wa u1 u2 v' ys zs (cs ++ [x]) := by
  obtain ⟨flat, how, PC⟩ := (h.o3.weak (rdSl rdStr) (ok' := fun b => okT p u1 u2 u3 b ∧ b < W.heap.size) (fun b hb h => ⟨h, hb⟩)).opened (rdSl rdStr)
  refine ⟨flat, how, fun x s v' wa hx ho hg hat => ?_⟩
  refine ⟨own_other h.o1 hg h.a13, own_other h.o2 hg h.a23, ?_, h.a12, (Apart.step (L := W.heap.size) h.a13.symm (fun B e => (h.o1.lt B e).2) (Nat.le_refl _) hat).symm, (Apart.step (L := W.heap.size) h.a23.symm (fun B e => (h.o2.lt B e).2) (Nat.le_refl _) hat).symm, h.md.kp hg (own_lo how), h.below_own hg (fun q hq => (how.lt q hq).1), h.sz⟩
  have a1 := PC wa v' x [s] rfl ((rdSl rdStr).weak hx (fun b hb h => ⟨h, hb⟩)) ho hg (fun b e h => h.1.2.2.2 e.symm)
  exact a1.weak (rdSl rdStr) (fun b _ h => okT_app3 hat b h.2 h.1)
theorem TrI.elem (h : TrI p w0 nm ov s1 s2 s3 W u1 u2 u3 ys zs cs) {A : Option Addr} {n c : Nat} {x : List Str} (hs : SlO (fun b => W.heap.size ≤ b) wa 1 (RStrO (fun b => W.heap.size ≤ b)) A n c x) : RSlO 1 RStrO (okT p u1 u2 u3) wa x [.slice A n c] :=
  ⟨A, n, c, rfl, hs.weak rdStr (fun b _ hb => ⟨by have := h.hi; omega, fun e => by have := (h.o1.lt b e.symm).2; omega, fun e => by have := (h.o2.lt b e.symm).2; omega, fun e => by have := (h.o3.lt b e.symm).2; omega⟩)⟩
theorem TrI.store (h : TrI p w0 nm ov s1 s2 s3 W u1 u2 u3 ys zs cs) {t1 t2 t3 : Value} {u : Value} {j : Nat} (hm : MdB (W.setCell ⟨p, j, none⟩ u) p nm ov t1 t2 t3) : TrI p w0 nm ov t1 t2 t3 (W.setCell ⟨p, j, none⟩ u) u1 u2 u3 ys zs cs := by
  have hg := st_cell W p j u
  exact ⟨h.o1.kept hg (.inr (fun e => own_lo h.o1 e.symm)), h.o2.kept hg (.inr (fun e => own_lo h.o2 e.symm)), h.o3.kept (rdSl rdStr) hg (.inr (fun e => by have := (h.o3.lt p e).1; omega)) (fun b e hk => by injection e with e; have := hk.1; omega), h.a12, h.a13, h.a23, hm, grown_tr h.bel hg, h.sz⟩
theorem TrI.st2 (h : TrI p w0 nm ov s1 s2 s3 W u1 u2 u3 ys zs cs) (u : Value) : TrI p w0 nm ov u s2 s3 (W.setCell ⟨p, 2, none⟩ u) u1 u2 u3 ys zs cs := h.store (h.md.st2 u)
theorem TrI.st3 (h : TrI p w0 nm ov s1 s2 s3 W u1 u2 u3 ys zs cs) (u : Value) : TrI p w0 nm ov s1 u s3 (W.setCell ⟨p, 3, none⟩ u) u1 u2 u3 ys zs cs := h.store (h.md.st3 u)
theorem TrI.st4 (h : TrI p w0 nm ov s1 s2 s3 W u1 u2 u3 ys zs cs) (u : Value) : TrI p w0 nm ov s1 s2 u (W.setCell ⟨p, 4, none⟩ u) u1 u2 u3 ys zs cs := h.store (h.md.st4 u)
end
end Go.Proofs.Ytchhjldopecliaa
namespace Go.Proofs.Ytchhjldopecliaa
open Go.RowKit

theorem pcOf_cl {m : Md} {j : Nat} {x : List Str} (h : m.cl[j]? = some x) : (pcOf m j).cl = x := by
  unfold pcOf
  rw [getD_some h]

set_option maxRecDepth 100000 in
set_option maxHeartbeats 8000000 in
theorem c_Trim (A : Option Addr) (n c : Nat) (ms : List Md) (x : Str) (w : World) (h : SlR w 5 RMd A n c ms) :
    Calls Try.prog 31 #[.slice A n c, .string x] w fun e w' => ∃ A' c', e = .returned (.tuple #[.slice A' (trm ms x).1.length c', .int .i64 (trm ms x).2]) ∧ SlR w' 5 RMd A' (trm ms x).1.length c' (trm ms x).1 ∧ Below w.heap.size w w' := by
  have hlim := h.lim
  have H := Box.mk h
  clear h
  go_enter Try.func31, Try.ntmps31
  go_wp2_with fail
  refine (c_openFrom A n c ms x w H.out).mono ?_
  rintro e w1 ⟨⟨v, rfl, hv⟩, hb1⟩
  have HB1 := Box.mk hb1
  clear hb1
  by_cases h0 : opf ms x = 0
  · obtain ⟨hop, hg, hp0, b, rfl, hm, hbl⟩ := hv h0
    have HO : Box (trm ms x = (trimL (rchB (prs ms) x) ms, 0)) := ⟨by simp [trm, h0]⟩
    have C := Box.mk (c_reach (prs ms) b x w1 hm (opn_all hop) (fun p hp => hg.pcalls hp) hp0)
    have HG := Box.mk hg
    rw [h0]
    clear hop hg hp0 hm hbl h0 hv
    go_wp2_with fail
    refine C.out.mono ?_
    rintro e w2 ⟨b2, S, rfl, hS, hF, hb2l, hb2⟩
    have HB2 := Box.mk (below_tr HB1.out HB1.out.size hb2)
    have HS := Box.mk hS
    have HK : Box (∀ y, decide (y ∈ S) = rchB (prs ms) x y) := ⟨fun y => by rw [Bool.eq_iff_iff, rchB_iff, decide_eq_true_iff]; exact hF.all y⟩
    clear hb2 hS hF hb2l C
    generalize rchB (prs ms) x = pb at *
    go_wp2_with fail
    go_loopw [9, 11, 12, 13, 14, 29] (fun v9 _ _ _ _ i wr => ∃ k : Nat, k ≤ n ∧ i = .int .i64 k ∧ Box (Below w2.heap.size w2 wr) ∧ Box (OwnO (fun b => some b ≠ v9.ownBlock) wr w2.heap.size 33 5 RMdO v9 (trimL pb (ms.take k)))) (fun _ _ _ _ _ i _ => n - (intOf i).toNat)
    case atStart => exact ⟨0, Nat.zero_le _, rfl, ⟨Below.refl _ _⟩, ⟨OwnO.nil⟩⟩
    case round =>
      obtain ⟨k, hk, rfl, HB, HR⟩ := hrel
      have HBw := Box.mk (below_tr HB2.out HB2.out.size HB.out)
      by_cases hlt : k < n
      · obtain ⟨b, off, m, A1, n1, c1, A2, n2, c2, A3, n3, c3, rfl, hb, hm, hM, h0, h1, h2, h3, h4⟩ := H.out.md_at k hlt
        replace h0 := cellk HBw.out hb h0
        replace h1 := cellk HBw.out hb h1
        replace h2 := cellk HBw.out hb h2
        replace h3 := cellk HBw.out hb h3
        replace h4 := cellk HBw.out hb h4
        have hmm : m ∈ ms := List.mem_iff_getElem?.2 ⟨k, hm⟩
        obtain ⟨hf1, hf2⟩ := HG.out.fit hmm
        have hpl := HG.out.prlen hmm
        have HCL : Box (∀ l ∈ m.cl, l.length ≤ 1000000) := ⟨fun l hl => by have := HG.out.calls m hmm l hl; omega⟩
        rw [hM.sz.len, hM.pr.len] at hf1
        rw [hM.cl.len, hM.pr.len] at hf2
        subst hf1 hf2
        have hn1 : n3 ≤ 100 := by rw [← hM.pr.len]; exact hpl
        have HM := Box.mk hM
        have HTK : Box (trimL pb (ms.take (k + 1)) = trimL pb (ms.take k) ++ if 0 < (trimM pb m).pr.length then [trimM pb m] else []) := ⟨by
          unfold trimL
          rw [List.take_add_one, hm, Option.toList_some, List.map_append, List.filter_append]
          by_cases hq : 0 < (trimM pb m).pr.length <;> simp [hq]⟩
        have HK32 : Box ((trimL pb (ms.take k)).length ≤ 32) := ⟨Nat.le_trans (List.length_filter_le ..) (by rw [List.length_map]; exact Nat.le_trans (List.length_take_le' ..) HG.out.len)⟩
        have HB0 : Box (Below w2.heap.size w2 ((wr.alloc (.cells #[.string m.nm, .int .i64 m.ov, .slice A1 n3 c1, .slice A2 n3 c2, .slice A3 n3 c3] 33)).alloc (.cells #[.string m.nm, .int .i64 m.ov, .slice none 0 0, .slice none 0 0, .slice none 0 0] 33))) := ⟨bel_alloc2 (bel_alloc2 HB.out _) _⟩
        have HMA : Box (MdB ((wr.alloc (.cells #[.string m.nm, .int .i64 m.ov, .slice A1 n3 c1, .slice A2 n3 c2, .slice A3 n3 c3] 33)).alloc (.cells #[.string m.nm, .int .i64 m.ov, .slice none 0 0, .slice none 0 0, .slice none 0 0] 33)) wr.heap.size m.nm m.ov (.slice A1 n3 c1) (.slice A2 n3 c2) (.slice A3 n3 c3)) := ⟨(Below.heap_alloc _ _ _ (by simp)).trans (MdB.new _ _ _ _ _ _)⟩
        have HRA := Box.mk (((HR.out.weak rdMd (ok' := fun b => some b ≠ u9.ownBlock ∧ b < wr.heap.size) (fun b hb h => ⟨h, hb⟩)).alloc rdMd (.cells #[.string m.nm, .int .i64 m.ov, .slice A1 n3 c1, .slice A2 n3 c2, .slice A3 n3 c3] 33)).alloc rdMd (.cells #[.string m.nm, .int .i64 m.ov, .slice none 0 0, .slice none 0 0, .slice none 0 0] 33))
        have HRL : Box (∀ q, u9.ownBlock = some q → q < wr.heap.size) := ⟨fun q hq => (HR.out.lt q hq).2⟩
        have HT0 : Box (TrI (wr.heap.size + 1) ((wr.alloc (.cells #[.string m.nm, .int .i64 m.ov, .slice A1 n3 c1, .slice A2 n3 c2, .slice A3 n3 c3] 33)).alloc (.cells #[.string m.nm, .int .i64 m.ov, .slice none 0 0, .slice none 0 0, .slice none 0 0] 33)) m.nm m.ov (.slice none 0 0) (.slice none 0 0) (.slice none 0 0) ((wr.alloc (.cells #[.string m.nm, .int .i64 m.ov, .slice A1 n3 c1, .slice A2 n3 c2, .slice A3 n3 c3] 33)).alloc (.cells #[.string m.nm, .int .i64 m.ov, .slice none 0 0, .slice none 0 0, .slice none 0 0] 33)) (.slice none 0 0) (.slice none 0 0) (.slice none 0 0) [] [] []) := ⟨by
          refine ⟨World.ownsRow_nil _ _ _ _, World.ownsRow_nil _ _ _ _, OwnO.nil, .inl rfl, .inl rfl, .inl rfl, ?_, World.grownBy.refl _ _, by simp⟩
          have e : wr.heap.size + 1 = (wr.alloc (.cells #[.string m.nm, .int .i64 m.ov, .slice A1 n3 c1, .slice A2 n3 c2, .slice A3 n3 c3] 33)).heap.size := by simp
          rw [e]
          exact MdB.new _ _ _ _ _ _⟩
        have HBS : Box (w2.heap.size ≤ wr.heap.size) := ⟨HB.out.size⟩
        clear hm hM hmm hpl hb
        go_upto_region 10 with fail
        generalize ((wr.alloc (.cells #[.string m.nm, .int .i64 m.ov, .slice A1 n3 c1, .slice A2 n3 c2, .slice A3 n3 c3] 33)).alloc (.cells #[.string m.nm, .int .i64 m.ov, .slice none 0 0, .slice none 0 0, .slice none 0 0] 33)) = W0 at *
        clear h0 h1 h2 h3 h4 HB HR HBw
        generalize wr.heap.size = p11 at *
        obtain ⟨q0, q1, q2, q3, q4, _⟩ := HMA.out.cells
        go_wp2_with fail
        clear q0 q1 q2 q3 q4
        go_loopw [13, 14, 41] (fun _ _ i wx => ∃ (j : Nat) (s1 s2 s3 : Value), j ≤ n3 ∧ i = .int .i64 j ∧ Box (TrI (p11 + 1) W0 m.nm m.ov s1 s2 s3 wx s1 s2 s3 ((((prM m).take j).filter (fun q => pb q.nm)).map (·.nm)) ((((prM m).take j).filter (fun q => pb q.nm)).map (·.sz)) ((((prM m).take j).filter (fun q => pb q.nm)).map (·.cl)))) (fun _ _ i _ => n3 - (intOf i).toNat)
        case atStart => exact ⟨0, _, _, _, Nat.zero_le _, rfl, HT0⟩
        case round =>
          obtain ⟨j, s1, s2, s3, hj, rfl, HT⟩ := hrel
          by_cases hjl : j < n3
          · obtain ⟨b5, o5, y, rfl, hb5, hy5, hs5, hc5⟩ := HM.out.pr.str_at j hjl
            obtain ⟨b6, o6, z, rfl, hb6, hz6, hc6⟩ := HM.out.sz.int_at j hjl
            obtain ⟨b7, o7, l, A7, n7, c7, rfl, hb7, hl7, hc7, hs7⟩ := HM.out.cl.sl_at j hjl
            obtain ⟨e1, e2, _e3⟩ := pcOf_at hy5 hz6
            have e4 := pcOf_cl hl7
            have HBW0 := Box.mk (below_tr HB2.out HB2.out.size HB0.out)
            have HLT : Box (w.heap.size ≤ p11) := ⟨Nat.le_trans HB2.out.size HBS.out⟩
            have HC5 : Box (wr.cell? ⟨b5, o5 + j, none⟩ = some (.string y)) := ⟨HT.out.bel.cell (cellk HBW0.out hb5 hc5) (fun e => by simp at e; have := HLT.out; omega)⟩
            have HSC : Box (∀ (W : World) (u1 u2 u3 : Value) (ys : List Str) (zs : List Int) (cs : List (List Str)), TrI (p11 + 1) W0 m.nm m.ov s1 s2 s3 W u1 u2 u3 ys zs cs →
                W.cell? ⟨p11 + 1, 2, none⟩ = some s1 ∧ W.cell? ⟨p11 + 1, 3, none⟩ = some s2 ∧ W.cell? ⟨p11 + 1, 4, none⟩ = some s3 ∧ W.cell? ⟨p11, 3, none⟩ = some (.slice (some ⟨b6, o6, none⟩) n3 c2) ∧ W.cell? ⟨p11, 4, none⟩ = some (.slice (some ⟨b7, o7, none⟩) n3 c3) ∧
                W.cell? ⟨b6, o6 + j, none⟩ = some (.int .i64 z) ∧ W.cell? ⟨b7, o7 + j, none⟩ = some (.slice A7 n7 c7)) := ⟨fun W u1 u2 u3 ys zs cs T => by
              obtain ⟨_, _, m2, m3, m4, _⟩ := T.md.cells
              obtain ⟨_, _, _, k3, k4, _⟩ := (HMA.out.kp T.bel (fun e => by injection e with e; omega)).cells
              exact ⟨m2, m3, m4, k3, k4, T.bel.cell (cellk HBW0.out hb6 hc6) (fun e => by simp at e; have := HLT.out; omega), T.bel.cell (cellk HBW0.out hb7 hc7) (fun e => by simp at e; have := HLT.out; omega)⟩⟩
            have HSL : Box (∀ (W : World) (u1 u2 u3 : Value) (ys : List Str) (zs : List Int) (cs : List (List Str)), TrI (p11 + 1) W0 m.nm m.ov s1 s2 s3 W u1 u2 u3 ys zs cs → SlR W 1 RStr A7 n7 c7 l) := ⟨fun W u1 u2 u3 ys zs cs T =>
              hs7.below mono_str (HBW0.out.grown T.bel HBW0.out.size (fun q hq => by injection hq with hq; have := HLT.out; omega))⟩
            have HN7 : Box (n7 ≤ 1000000) := ⟨by rw [← hs7.len]; exact HCL.out l (List.mem_iff_getElem?.2 ⟨j, hl7⟩)⟩
            have hlook := ((HS.out.below HB0.out).kept HT.out.bel (fun e => by injection e with e; have := HS.out.lt; have := HBS.out; omega)).look y
            rw [HK.out y] at hlook
            have hjm : j < m.pr.length := by rw [HM.out.pr.len]; exact hjl
            have HFT : Box (((prM m).take (j + 1)).filter (fun q => pb q.nm) = ((prM m).take j).filter (fun q => pb q.nm) ++ if pb y then [pcOf m j] else []) := ⟨by
              rw [prM_take m j hjm, List.filter_append]
              congr 1
              by_cases hq : pb y = true <;> simp [e1, hq]⟩
            have HPC := Box.mk (And.intro e1 (And.intro e2 e4))
            have HDL : Box ((((prM m).take j).filter (fun q => pb q.nm)).length ≤ 100) := ⟨Nat.le_trans (List.length_filter_le ..) (by rw [List.length_take]; omega)⟩
            have i0 : (0 : Int) ≤ (j : Int) := by omega
            have i1 : (j : Int) < (n3 : Int) := by omega
            generalize ((prM m).take j).filter (fun q => pb q.nm) = D at *
            have HMW := Box.mk (HMA.out.kp HT.out.bel (fun e => by injection e with e; omega))
            obtain ⟨q0, q1, q2, q3, q4, _⟩ := HMW.out.cells
            have c5 := HC5.out
            clear hb5 hb6 hb7 hy5 hz6 hl7 hc5 hc6 hc7 hs7 e1 e2 e4 _e3 hjm
            go_upto_block 3 with fail
            go_cut [13, 14] (fun _ _ wx => ∃ v1 v2 v3, Box (TrI (p11 + 1) W0 m.nm m.ov v1 v2 v3 wx v1 v2 v3 ((((prM m).take (j + 1)).filter (fun q => pb q.nm)).map (·.nm)) ((((prM m).take (j + 1)).filter (fun q => pb q.nm)).map (·.sz)) ((((prM m).take (j + 1)).filter (fun q => pb q.nm)).map (·.cl))))
            case first =>
              by_cases hpy : pb y = true
              · rw [hpy] at hlook
                rw [if_pos hpy] at HFT
                clear hpy
                go_upto_region 14 with fail
                clear q0 q1 q2 q3 q4 hlook c5
                have E1 : Box ((D ++ [pcOf m j]).map (·.nm) = D.map (·.nm) ++ [y]) := ⟨by rw [List.map_append]; simp [HPC.out.1]⟩
                have E2 : Box ((D ++ [pcOf m j]).map (·.sz) = D.map (·.sz) ++ [z]) := ⟨by rw [List.map_append]; simp [HPC.out.2.1]⟩
                have E3 : Box ((D ++ [pcOf m j]).map (·.cl) = D.map (·.cl) ++ [l]) := ⟨by rw [List.map_append]; simp [HPC.out.2.2]⟩
                have HLA : Box (((D.map (·.nm)).length + 1) * 16 ≤ 140737488355328) := ⟨by rw [List.length_map]; have := HDL.out; omega⟩
                have HLB : Box (((D.map (·.sz)).length + 1) * 8 ≤ 140737488355328) := ⟨by rw [List.length_map]; have := HDL.out; omega⟩
                have HLC : Box (((D.map (·.cl)).length + 1) * 24 ≤ 140737488355328) := ⟨by rw [List.length_map]; have := HDL.out; omega⟩
                have T := Box.mk HT.out.drew
                refine wp_region_head (hd := ?hdl) (tl := ?tll) (S := fun W => W.cell? ⟨p11 + 1, 2, none⟩ = some s1 ∧ W.cell? ⟨p11 + 1, 3, none⟩ = some s2 ∧ W.cell? ⟨p11 + 1, 4, none⟩ = some s3 ∧ W.cell? ⟨p11, 3, none⟩ = some (.slice (some ⟨b6, o6, none⟩) n3 c2) ∧ W.cell? ⟨p11, 4, none⟩ = some (.slice (some ⟨b7, o7, none⟩) n3 c3) ∧
                  W.cell? ⟨b6, o6 + j, none⟩ = some (.int .i64 z) ∧ W.cell? ⟨b7, o7 + j, none⟩ = some (.slice A7 n7 c7)) 25 (by kernel_rfl) (by kernel_rfl) ?hd ?tl (HSC.out _ _ _ _ _ _ _ T.out) (fun hHeld => ?walk)
                case hd => simp only [List.take_succ_cons, List.take_zero] <;> rfl
                case tl => simp only [List.drop_succ_cons, List.drop_zero] <;> rfl
                case walk =>
                generalize wr.drew = Wd at *
                clear HT HC5
                refine wpAnyH_take (i := 0) (oi := ?oi1) (v := ?v1) ?ho1 (by kernel_rfl) (by kernel_rfl) (by kernel_rfl) ?hQ1 (Or.inl ⟨?hg1, ?hy1⟩) hHeld ?rest1
                case ho1 => simp only [List.getElem?_toArray, List.getElem?_cons_zero] <;> rfl
                case hQ1 => exact fun _ _ _ h => h
                case hg1 => rfl
                case hy1 =>
                  intro w hSw
                  obtain ⟨a1, a2, a3, a4, a5, a6, a7⟩ := hSw
                  go_simp <;> with_reducible rfl
                try simp only [Act.put, List.setIfInBounds_toArray, List.set_cons_zero, List.set_cons_succ]
                refine wpAnyH_take (i := 1) (oi := ?oi2) (v := ?v2) ?ho2 (by kernel_rfl) (by kernel_rfl) (by kernel_rfl) ?hQ2 (Or.inl ⟨?hg2, ?hy2⟩) hHeld ?rest2
                case ho2 => simp only [List.getElem?_toArray, List.getElem?_cons_succ, List.getElem?_cons_zero] <;> rfl
                case hQ2 => exact fun _ _ _ h => h
                case hg2 => rfl
                case hy2 =>
                  intro w hSw
                  obtain ⟨a1, a2, a3, a4, a5, a6, a7⟩ := hSw
                  go_simp <;> with_reducible rfl
                try simp only [Act.put, List.setIfInBounds_toArray, List.set_cons_zero, List.set_cons_succ]
                refine wpAnyH_take (i := 2) (oi := ?oi3) (v := ?v3) ?ho3 (by kernel_rfl) (by kernel_rfl) (by kernel_rfl) ?hQ3 (Or.inl ⟨?hg3, ?hy3⟩) hHeld ?rest3
                case ho3 => simp only [List.getElem?_toArray, List.getElem?_cons_succ, List.getElem?_cons_zero] <;> rfl
                case hQ3 => exact fun _ _ _ h => h
                case hg3 => rfl
                case hy3 =>
                  intro w hSw
                  obtain ⟨a1, a2, a3, a4, a5, a6, a7⟩ := hSw
                  go_simp <;> with_reducible rfl
                try simp only [Act.put, List.setIfInBounds_toArray, List.set_cons_zero, List.set_cons_succ]
                refine wpAnyH_take (i := 5) (oi := ?oi4) (v := ?v4) ?ho4 (by kernel_rfl) (by kernel_rfl) (by kernel_rfl) ?hQ4 (Or.inl ⟨?hg4, ?hy4⟩) hHeld ?rest4
                case ho4 => simp only [List.getElem?_toArray, List.getElem?_cons_succ, List.getElem?_cons_zero] <;> rfl
                case hQ4 => exact fun _ _ _ h => h
                case hg4 => rfl
                case hy4 =>
                  intro w hSw
                  obtain ⟨a1, a2, a3, a4, a5, a6, a7⟩ := hSw
                  go_simp <;> with_reducible rfl
                try simp only [Act.put, List.setIfInBounds_toArray, List.set_cons_zero, List.set_cons_succ]
                refine wpAnyH_take (i := 6) (oi := ?oi5) (v := ?v5) ?ho5 (by kernel_rfl) (by kernel_rfl) (by kernel_rfl) ?hQ5 (Or.inl ⟨?hg5, ?hy5⟩) hHeld ?rest5
                case ho5 => simp only [List.getElem?_toArray, List.getElem?_cons_succ, List.getElem?_cons_zero] <;> rfl
                case hQ5 => exact fun _ _ _ h => h
                case hg5 => rfl
                case hy5 =>
                  intro w hSw
                  obtain ⟨a1, a2, a3, a4, a5, a6, a7⟩ := hSw
                  go_simp <;> with_reducible rfl
                try simp only [Act.put, List.setIfInBounds_toArray, List.set_cons_zero, List.set_cons_succ]
                refine wpAnyH_take (i := 7) (oi := ?oi6) (v := ?v6) ?ho6 (by kernel_rfl) (by kernel_rfl) (by kernel_rfl) ?hQ6 (Or.inl ⟨?hg6, ?hy6⟩) hHeld ?rest6
                case ho6 => simp only [List.getElem?_toArray, List.getElem?_cons_succ, List.getElem?_cons_zero] <;> rfl
                case hQ6 => exact fun _ _ _ h => h
                case hg6 => rfl
                case hy6 =>
                  intro w hSw
                  obtain ⟨a1, a2, a3, a4, a5, a6, a7⟩ := hSw
                  go_simp <;> with_reducible rfl
                try simp only [Act.put, List.setIfInBounds_toArray, List.set_cons_zero, List.set_cons_succ]
                refine wpAnyH_take (i := 8) (oi := ?oi7) (v := ?v7) ?ho7 (by kernel_rfl) (by kernel_rfl) (by kernel_rfl) ?hQ7 (Or.inl ⟨?hg7, ?hy7⟩) hHeld ?rest7
                case ho7 => simp only [List.getElem?_toArray, List.getElem?_cons_succ, List.getElem?_cons_zero] <;> rfl
                case hQ7 => exact fun _ _ _ h => h
                case hg7 => rfl
                case hy7 =>
                  intro w hSw
                  obtain ⟨a1, a2, a3, a4, a5, a6, a7⟩ := hSw
                  go_simp <;> with_reducible rfl
                try simp only [Act.put, List.setIfInBounds_toArray, List.set_cons_zero, List.set_cons_succ]
                refine wpAnyH_take (i := 9) (oi := ?oi8) (v := ?v8) ?ho8 (by kernel_rfl) (by kernel_rfl) (by kernel_rfl) ?hQ8 (Or.inl ⟨?hg8, ?hy8⟩) hHeld ?rest8
                case ho8 => simp only [List.getElem?_toArray, List.getElem?_cons_succ, List.getElem?_cons_zero] <;> rfl
                case hQ8 => exact fun _ _ _ h => h
                case hg8 => rfl
                case hy8 =>
                  intro w hSw
                  obtain ⟨a1, a2, a3, a4, a5, a6, a7⟩ := hSw
                  go_simp <;> with_reducible rfl
                try simp only [Act.put, List.setIfInBounds_toArray, List.set_cons_zero, List.set_cons_succ]
                refine wpAnyH_take (i := 10) (oi := ?oi9) (v := ?v9) ?ho9 (by kernel_rfl) (by kernel_rfl) (by kernel_rfl) ?hQ9 (Or.inl ⟨?hg9, ?hy9⟩) hHeld ?rest9
                case ho9 => simp only [List.getElem?_toArray, List.getElem?_cons_succ, List.getElem?_cons_zero] <;> rfl
                case hQ9 => exact fun _ _ _ h => h
                case hg9 => rfl
                case hy9 =>
                  intro w hSw
                  obtain ⟨a1, a2, a3, a4, a5, a6, a7⟩ := hSw
                  go_simp <;> with_reducible rfl
                try simp only [Act.put, List.setIfInBounds_toArray, List.set_cons_zero, List.set_cons_succ]
                refine wpAnyH_take (i := 11) (oi := ?oi10) (v := ?v10) ?ho10 (by kernel_rfl) (by kernel_rfl) (by kernel_rfl) ?hQ10 (Or.inl ⟨?hg10, ?hy10⟩) hHeld ?rest10
                case ho10 => simp only [List.getElem?_toArray, List.getElem?_cons_succ, List.getElem?_cons_zero] <;> rfl
                case hQ10 => exact fun _ _ _ h => h
                case hg10 => rfl
                case hy10 =>
                  intro w hSw
                  obtain ⟨a1, a2, a3, a4, a5, a6, a7⟩ := hSw
                  go_simp <;> with_reducible rfl
                try simp only [Act.put, List.setIfInBounds_toArray, List.set_cons_zero, List.set_cons_succ]
                refine wpAnyH_take (i := 14) (oi := ?oi11) (v := ?v11) ?ho11 (by kernel_rfl) (by kernel_rfl) (by kernel_rfl) ?hQ11 (Or.inl ⟨?hg11, ?hy11⟩) hHeld ?rest11
                case ho11 => simp only [List.getElem?_toArray, List.getElem?_cons_succ, List.getElem?_cons_zero] <;> rfl
                case hQ11 => exact fun _ _ _ h => h
                case hg11 => rfl
                case hy11 =>
                  intro w hSw
                  obtain ⟨a1, a2, a3, a4, a5, a6, a7⟩ := hSw
                  go_simp <;> with_reducible rfl
                try simp only [Act.put, List.setIfInBounds_toArray, List.set_cons_zero, List.set_cons_succ]
                refine wpAnyH_take (i := 15) (oi := ?oi12) (v := ?v12) ?ho12 (by kernel_rfl) (by kernel_rfl) (by kernel_rfl) ?hQ12 (Or.inl ⟨?hg12, ?hy12⟩) hHeld ?rest12
                case ho12 => simp only [List.getElem?_toArray, List.getElem?_cons_succ, List.getElem?_cons_zero] <;> rfl
                case hQ12 => exact fun _ _ _ h => h
                case hg12 => rfl
                case hy12 =>
                  intro w hSw
                  obtain ⟨a1, a2, a3, a4, a5, a6, a7⟩ := hSw
                  go_simp <;> with_reducible rfl
                try simp only [Act.put, List.setIfInBounds_toArray, List.set_cons_zero, List.set_cons_succ]
                refine wpAnyH_take (i := 16) (oi := ?oi13) (v := ?v13) ?ho13 (by kernel_rfl) (by kernel_rfl) (by kernel_rfl) ?hQ13 (Or.inl ⟨?hg13, ?hy13⟩) hHeld ?rest13
                case ho13 => simp only [List.getElem?_toArray, List.getElem?_cons_succ, List.getElem?_cons_zero] <;> rfl
                case hQ13 => exact fun _ _ _ h => h
                case hg13 => rfl
                case hy13 =>
                  intro w hSw
                  obtain ⟨a1, a2, a3, a4, a5, a6, a7⟩ := hSw
                  go_simp <;> with_reducible rfl
                try simp only [Act.put, List.setIfInBounds_toArray, List.set_cons_zero, List.set_cons_succ]
                refine wpAnyH_take (i := 17) (oi := ?oi14) (v := ?v14) ?ho14 (by kernel_rfl) (by kernel_rfl) (by kernel_rfl) ?hQ14 (Or.inl ⟨?hg14, ?hy14⟩) hHeld ?rest14
                case ho14 => simp only [List.getElem?_toArray, List.getElem?_cons_succ, List.getElem?_cons_zero] <;> rfl
                case hQ14 => exact fun _ _ _ h => h
                case hg14 => rfl
                case hy14 =>
                  intro w hSw
                  obtain ⟨a1, a2, a3, a4, a5, a6, a7⟩ := hSw
                  go_simp <;> with_reducible rfl
                try simp only [Act.put, List.setIfInBounds_toArray, List.set_cons_zero, List.set_cons_succ]
                refine wpAnyH_take (i := 18) (oi := ?oi15) (v := ?v15) ?ho15 (by kernel_rfl) (by kernel_rfl) (by kernel_rfl) ?hQ15 (Or.inl ⟨?hg15, ?hy15⟩) hHeld ?rest15
                case ho15 => simp only [List.getElem?_toArray, List.getElem?_cons_succ, List.getElem?_cons_zero] <;> rfl
                case hQ15 => exact fun _ _ _ h => h
                case hg15 => rfl
                case hy15 =>
                  intro w hSw
                  obtain ⟨a1, a2, a3, a4, a5, a6, a7⟩ := hSw
                  go_simp <;> with_reducible rfl
                try simp only [Act.put, List.setIfInBounds_toArray, List.set_cons_zero, List.set_cons_succ]
                refine wpAnyH_take (i := 19) (oi := ?oi16) (v := ?v16) ?ho16 (by kernel_rfl) (by kernel_rfl) (by kernel_rfl) ?hQ16 (Or.inl ⟨?hg16, ?hy16⟩) hHeld ?rest16
                case ho16 => simp only [List.getElem?_toArray, List.getElem?_cons_succ, List.getElem?_cons_zero] <;> rfl
                case hQ16 => exact fun _ _ _ h => h
                case hg16 => rfl
                case hy16 =>
                  intro w hSw
                  obtain ⟨a1, a2, a3, a4, a5, a6, a7⟩ := hSw
                  go_simp <;> with_reducible rfl
                try simp only [Act.put, List.setIfInBounds_toArray, List.set_cons_zero, List.set_cons_succ]
                refine wpAnyH_take (i := 20) (oi := ?oi17) (v := ?v17) ?ho17 (by kernel_rfl) (by kernel_rfl) (by kernel_rfl) ?hQ17 (Or.inl ⟨?hg17, ?hy17⟩) hHeld ?rest17
                case ho17 => simp only [List.getElem?_toArray, List.getElem?_cons_succ, List.getElem?_cons_zero] <;> rfl
                case hQ17 => exact fun _ _ _ h => h
                case hg17 => rfl
                case hy17 =>
                  intro w hSw
                  obtain ⟨a1, a2, a3, a4, a5, a6, a7⟩ := hSw
                  go_simp <;> with_reducible rfl
                try simp only [Act.put, List.setIfInBounds_toArray, List.set_cons_zero, List.set_cons_succ]
                refine wpAnyH_ready (rs := [3, 12]) (by kernel_rfl) (by simp) ?_
                refine AllReadyH.cons (o := ?o18) ?ho18 (fun K hK => ?step18) ?more18
                case ho18 => simp only [List.getElem?_toArray, List.getElem?_cons_succ, List.getElem?_cons_zero] <;> rfl
                case step18 =>
                  go_simp
                  have TT := T
                  have T := Box.mk (T.out.alloc (.cells #[.string y] 9))
                  have CY : Box ((Wd.alloc (.cells #[.string y] 9)).cell? ⟨Wd.heap.size, 0, none⟩ = some (.string y)) := ⟨by simp⟩
                  refine hK.out _ _ (HSC.out _ _ _ _ _ _ _ T.out) (fun hHeld => ?_)
                  clear hK K
                  try simp only [Act.put, List.setIfInBounds_toArray, List.set_cons_zero, List.set_cons_succ]
                  clear TT
                  generalize Wd.alloc (.cells #[.string y] 9) = W1 at *
                  generalize Wd.heap.size = bY at *
                  refine wpAnyH_ready (rs := [4, 12]) (by kernel_rfl) (by simp) ?_
                  refine AllReadyH.cons (o := ?o19) ?ho19 (fun K hK => ?step19) ?more19
                  case ho19 => simp only [List.getElem?_toArray, List.getElem?_cons_succ, List.getElem?_cons_zero] <;> rfl
                  case step19 =>
                    refine step_app _ (p11 + 1 + 1) rfl _ _ 23 9 rfl (.string ByteArray.empty) 1 16 Try.underlying23 info_str rfl (by decide) (by decide) s1 _ _ rfl T.out.o1 (some ⟨_, 0, none⟩) 1 1 [.string y] rfl (src_cell CY.out rfl) HLA.out T.out.hi ?_
                    intro v1 W2 ho1 hg1 hat1
                    have T := Box.mk (T.out.app1 ho1 hg1 hat1)
                    clear ho1 hg1 hat1
                    refine hK.out _ _ (HSC.out _ _ _ _ _ _ _ T.out) (fun hHeld => ?_)
                    clear hK K
                    try simp only [Act.put, List.setIfInBounds_toArray, List.set_cons_zero, List.set_cons_succ]
                    refine wpAnyH_take (i := 24) (oi := ?oi20) (v := ?v20) ?ho20 (by kernel_rfl) (by kernel_rfl) (by kernel_rfl) ?hQ20 (Or.inl ⟨?hg20, ?hy20⟩) hHeld ?rest20
                    case ho20 => simp only [List.getElem?_toArray, List.getElem?_cons_succ, List.getElem?_cons_zero] <;> rfl
                    case hQ20 => exact fun _ _ _ h => h
                    case hg20 => rfl
                    case hy20 =>
                      intro w hSw
                      obtain ⟨a1, a2, a3, a4, a5, a6, a7⟩ := hSw
                      go_simp <;> with_reducible rfl
                    try simp only [Act.put, List.setIfInBounds_toArray, List.set_cons_zero, List.set_cons_succ]
                    refine wpAnyH_ready (rs := [12]) (by kernel_rfl) (by simp) ?_
                    refine AllReadyH.cons (o := ?o21) ?ho21 (fun K hK => ?step21) ?more21
                    case ho21 => simp only [List.getElem?_toArray, List.getElem?_cons_succ, List.getElem?_cons_zero] <;> rfl
                    case step21 =>
                      go_simp
                      have TT := T
                      have T := Box.mk (T.out.alloc (.cells #[.int .i64 z] 3))
                      have CY := Box.mk (cell_al (.cells #[.int .i64 z] 3) CY.out)
                      have CZ : Box ((W2.alloc (.cells #[.int .i64 z] 3)).cell? ⟨W2.heap.size, 0, none⟩ = some (.int .i64 z)) := ⟨by simp⟩
                      refine hK.out _ _ (HSC.out _ _ _ _ _ _ _ T.out) (fun hHeld => ?_)
                      clear hK K
                      try simp only [Act.put, List.setIfInBounds_toArray, List.set_cons_zero, List.set_cons_succ]
                      clear TT
                      generalize W2.alloc (.cells #[.int .i64 z] 3) = W3 at *
                      generalize W2.heap.size = bZ at *
                      clear CY
                      refine wpAnyH_ready (rs := [13]) (by kernel_rfl) (by simp) ?_
                      refine AllReadyH.cons (o := ?o22) ?ho22 (fun K hK => ?step22) AllReadyH.nil
                      case ho22 => simp only [List.getElem?_toArray, List.getElem?_cons_succ, List.getElem?_cons_zero] <;> rfl
                      refine step_app _ (p11 + 1 + 1) rfl _ _ 30 3 rfl (.int .i64 0) 1 8 Try.underlying30 info_int rfl (by decide) (by decide) s2 _ _ rfl T.out.o2 (some ⟨_, 0, none⟩) 1 1 [.int .i64 z] rfl (src_cell CZ.out rfl) HLB.out T.out.hi ?_
                      intro v2 W11 ho2 hg2 hat2
                      have T := Box.mk (T.out.app2 ho2 hg2 hat2)
                      clear ho2 hg2 hat2
                      refine hK.out _ _ (HSC.out _ _ _ _ _ _ _ T.out) (fun hHeld => ?_)
                      clear hK K
                      try simp only [Act.put, List.setIfInBounds_toArray, List.set_cons_zero, List.set_cons_succ]
                      refine wpAnyH_ready (rs := [21]) (by kernel_rfl) (by simp) ?_
                      refine AllReadyH.cons (o := ?o23) ?ho23 (fun K hK => ?step23) AllReadyH.nil
                      case ho23 => simp only [List.getElem?_toArray, List.getElem?_cons_succ, List.getElem?_cons_zero] <;> rfl
                      go_simp
                      refine (c_CloneStr A7 n7 c7 l _ (HSL.out _ _ _ _ _ _ _ T.out) HN7.out).mono ?_
                      rintro e W12 ⟨A8, c8, rfl, hs8, hb8⟩
                      have E := Box.mk (T.out.elem hs8)
                      have T := Box.mk (T.out.clone hb8)
                      clear hs8 hb8
                      dsimp only
                      refine hK.out _ _ (HSC.out _ _ _ _ _ _ _ T.out) (fun hHeld => ?_)
                      clear hK K
                      try simp only [Act.put, List.setIfInBounds_toArray, List.set_cons_zero, List.set_cons_succ]
                      refine wpAnyH_ready (rs := [22]) (by kernel_rfl) (by simp) ?_
                      refine AllReadyH.cons (o := ?o24) ?ho24 (fun K hK => ?step24) AllReadyH.nil
                      case ho24 => simp only [List.getElem?_toArray, List.getElem?_cons_succ, List.getElem?_cons_zero] <;> rfl
                      go_simp
                      have T := Box.mk (T.out.alloc (.cells #[.slice A8 n7 c8] 23))
                      have E := Box.mk ((rdSl rdStr).kept E.out (World.grownBy_alloc W12 (.cells #[.slice A8 n7 c8] 23) none) (fun b e => by cases e))
                      have CX := Box.mk (src_one W12 (.slice A8 n7 c8) 23 rfl)
                      refine hK.out _ _ (HSC.out _ _ _ _ _ _ _ T.out) (fun hHeld => ?_)
                      clear hK K
                      try simp only [Act.put, List.setIfInBounds_toArray, List.set_cons_zero, List.set_cons_succ]
                      generalize W12.alloc (.cells #[.slice A8 n7 c8] 23) = W13 at *
                      generalize W12.heap.size = bX at *
                      refine wpAnyH_ready (rs := [23]) (by kernel_rfl) (by simp) ?_
                      refine AllReadyH.cons (o := ?o25) ?ho25 (fun K hK => ?step25) AllReadyH.nil
                      case ho25 => simp only [List.getElem?_toArray, List.getElem?_cons_succ, List.getElem?_cons_zero] <;> rfl
                      obtain ⟨flat, how, PC⟩ := T.out.app3
                      refine step_app _ (p11 + 1 + 1) rfl _ _ 31 23 rfl (.slice none 0 0) 1 24 Try.underlying31 info_sl rfl (by decide) (by decide) s3 _ _ rfl how (some ⟨_, 0, none⟩) 1 1 [.slice A8 n7 c8] rfl CX.out HLC.out T.out.hi ?_
                      intro v3 W14 ho3 hg3 hat3
                      have T := Box.mk (PC l (.slice A8 n7 c8) v3 W14 E.out ho3 hg3 hat3)
                      clear ho3 hg3 hat3 PC how
                      refine hK.out _ _ (HSC.out _ _ _ _ _ _ _ T.out) (fun hHeld => ?_)
                      clear hK K
                      try simp only [Act.put, List.setIfInBounds_toArray, List.set_cons_zero, List.set_cons_succ]
                      refine wpAnyH_done (by kernel_rfl) ?_ _
                      simp only [headQ]
                      obtain ⟨B1, m1, d1, rfl⟩ := own_slice T.out.o1
                      obtain ⟨B2, m2, d2, rfl⟩ := own_slice T.out.o2
                      obtain ⟨B3, m3, d3, rfl⟩ := T.out.o3.slice
                      obtain ⟨_z0, _z1, q2, q3, q4, _z5⟩ := T.out.md.cells
                      have f2 := T.out.md.fz 2
                      have f3 := T.out.md.fz 3
                      have f4 := T.out.md.fz 4
                      clear _z0 _z1 _z5
                      go_wp2_with fail
                      go_meet
                      exact ⟨_, _, _, ⟨by rw [HFT.out, E1.out, E2.out, E3.out]; exact ((T.out.st2 _).st3 _).st4 _⟩⟩
                    case more21 =>
                      exact AllReadyH.nil
                  case more19 =>
                    refine AllReadyH.cons (o := ?o26) ?ho26 (fun K hK => ?step26) ?more26
                    case ho26 => simp only [List.getElem?_toArray, List.getElem?_cons_succ, List.getElem?_cons_zero] <;> rfl
                    case step26 =>
                      go_simp
                      have TT := T
                      have T := Box.mk (T.out.alloc (.cells #[.int .i64 z] 3))
                      have CY := Box.mk (cell_al (.cells #[.int .i64 z] 3) CY.out)
                      have CZ : Box ((W1.alloc (.cells #[.int .i64 z] 3)).cell? ⟨W1.heap.size, 0, none⟩ = some (.int .i64 z)) := ⟨by simp⟩
                      have NZ : Box (some W1.heap.size ≠ s1.ownBlock) := ⟨fun e => by have := (TT.out.o1.lt _ e.symm).2; omega⟩
                      refine hK.out _ _ (HSC.out _ _ _ _ _ _ _ T.out) (fun hHeld => ?_)
                      clear hK K
                      try simp only [Act.put, List.setIfInBounds_toArray, List.set_cons_zero, List.set_cons_succ]
                      clear TT
                      generalize W1.alloc (.cells #[.int .i64 z] 3) = W2 at *
                      generalize W1.heap.size = bZ at *
                      refine wpAnyH_ready (rs := [4]) (by kernel_rfl) (by simp) ?_
                      refine AllReadyH.cons (o := ?o27) ?ho27 (fun K hK => ?step27) ?more27
                      case ho27 => simp only [List.getElem?_toArray, List.getElem?_cons_succ, List.getElem?_cons_zero] <;> rfl
                      case step27 =>
                        refine step_app _ (p11 + 1 + 1) rfl _ _ 23 9 rfl (.string ByteArray.empty) 1 16 Try.underlying23 info_str rfl (by decide) (by decide) s1 _ _ rfl T.out.o1 (some ⟨_, 0, none⟩) 1 1 [.string y] rfl (src_cell CY.out rfl) HLA.out T.out.hi ?_
                        intro v1 W3 ho1 hg1 hat1
                        have CZ := Box.mk (hg1.cell CZ.out NZ.out)
                        have T := Box.mk (T.out.app1 ho1 hg1 hat1)
                        clear ho1 hg1 hat1
                        refine hK.out _ _ (HSC.out _ _ _ _ _ _ _ T.out) (fun hHeld => ?_)
                        clear hK K
                        try simp only [Act.put, List.setIfInBounds_toArray, List.set_cons_zero, List.set_cons_succ]
                        refine wpAnyH_take (i := 24) (oi := ?oi28) (v := ?v28) ?ho28 (by kernel_rfl) (by kernel_rfl) (by kernel_rfl) ?hQ28 (Or.inl ⟨?hg28, ?hy28⟩) hHeld ?rest28
                        case ho28 => simp only [List.getElem?_toArray, List.getElem?_cons_succ, List.getElem?_cons_zero] <;> rfl
                        case hQ28 => exact fun _ _ _ h => h
                        case hg28 => rfl
                        case hy28 =>
                          intro w hSw
                          obtain ⟨a1, a2, a3, a4, a5, a6, a7⟩ := hSw
                          go_simp <;> with_reducible rfl
                        try simp only [Act.put, List.setIfInBounds_toArray, List.set_cons_zero, List.set_cons_succ]
                        clear CY
                        refine wpAnyH_ready (rs := [13]) (by kernel_rfl) (by simp) ?_
                        refine AllReadyH.cons (o := ?o29) ?ho29 (fun K hK => ?step29) AllReadyH.nil
                        case ho29 => simp only [List.getElem?_toArray, List.getElem?_cons_succ, List.getElem?_cons_zero] <;> rfl
                        refine step_app _ (p11 + 1 + 1) rfl _ _ 30 3 rfl (.int .i64 0) 1 8 Try.underlying30 info_int rfl (by decide) (by decide) s2 _ _ rfl T.out.o2 (some ⟨_, 0, none⟩) 1 1 [.int .i64 z] rfl (src_cell CZ.out rfl) HLB.out T.out.hi ?_
                        intro v2 W11 ho2 hg2 hat2
                        have T := Box.mk (T.out.app2 ho2 hg2 hat2)
                        clear ho2 hg2 hat2
                        refine hK.out _ _ (HSC.out _ _ _ _ _ _ _ T.out) (fun hHeld => ?_)
                        clear hK K
                        try simp only [Act.put, List.setIfInBounds_toArray, List.set_cons_zero, List.set_cons_succ]
                        refine wpAnyH_ready (rs := [21]) (by kernel_rfl) (by simp) ?_
                        refine AllReadyH.cons (o := ?o30) ?ho30 (fun K hK => ?step30) AllReadyH.nil
                        case ho30 => simp only [List.getElem?_toArray, List.getElem?_cons_succ, List.getElem?_cons_zero] <;> rfl
                        go_simp
                        refine (c_CloneStr A7 n7 c7 l _ (HSL.out _ _ _ _ _ _ _ T.out) HN7.out).mono ?_
                        rintro e W12 ⟨A8, c8, rfl, hs8, hb8⟩
                        have E := Box.mk (T.out.elem hs8)
                        have T := Box.mk (T.out.clone hb8)
                        clear hs8 hb8
                        dsimp only
                        refine hK.out _ _ (HSC.out _ _ _ _ _ _ _ T.out) (fun hHeld => ?_)
                        clear hK K
                        try simp only [Act.put, List.setIfInBounds_toArray, List.set_cons_zero, List.set_cons_succ]
                        refine wpAnyH_ready (rs := [22]) (by kernel_rfl) (by simp) ?_
                        refine AllReadyH.cons (o := ?o31) ?ho31 (fun K hK => ?step31) AllReadyH.nil
                        case ho31 => simp only [List.getElem?_toArray, List.getElem?_cons_succ, List.getElem?_cons_zero] <;> rfl
                        go_simp
                        have T := Box.mk (T.out.alloc (.cells #[.slice A8 n7 c8] 23))
                        have E := Box.mk ((rdSl rdStr).kept E.out (World.grownBy_alloc W12 (.cells #[.slice A8 n7 c8] 23) none) (fun b e => by cases e))
                        have CX := Box.mk (src_one W12 (.slice A8 n7 c8) 23 rfl)
                        refine hK.out _ _ (HSC.out _ _ _ _ _ _ _ T.out) (fun hHeld => ?_)
                        clear hK K
                        try simp only [Act.put, List.setIfInBounds_toArray, List.set_cons_zero, List.set_cons_succ]
                        generalize W12.alloc (.cells #[.slice A8 n7 c8] 23) = W13 at *
                        generalize W12.heap.size = bX at *
                        refine wpAnyH_ready (rs := [23]) (by kernel_rfl) (by simp) ?_
                        refine AllReadyH.cons (o := ?o32) ?ho32 (fun K hK => ?step32) AllReadyH.nil
                        case ho32 => simp only [List.getElem?_toArray, List.getElem?_cons_succ, List.getElem?_cons_zero] <;> rfl
                        obtain ⟨flat, how, PC⟩ := T.out.app3
                        refine step_app _ (p11 + 1 + 1) rfl _ _ 31 23 rfl (.slice none 0 0) 1 24 Try.underlying31 info_sl rfl (by decide) (by decide) s3 _ _ rfl how (some ⟨_, 0, none⟩) 1 1 [.slice A8 n7 c8] rfl CX.out HLC.out T.out.hi ?_
                        intro v3 W14 ho3 hg3 hat3
                        have T := Box.mk (PC l (.slice A8 n7 c8) v3 W14 E.out ho3 hg3 hat3)
                        clear ho3 hg3 hat3 PC how
                        refine hK.out _ _ (HSC.out _ _ _ _ _ _ _ T.out) (fun hHeld => ?_)
                        clear hK K
                        try simp only [Act.put, List.setIfInBounds_toArray, List.set_cons_zero, List.set_cons_succ]
                        refine wpAnyH_done (by kernel_rfl) ?_ _
                        simp only [headQ]
                        obtain ⟨B1, m1, d1, rfl⟩ := own_slice T.out.o1
                        obtain ⟨B2, m2, d2, rfl⟩ := own_slice T.out.o2
                        obtain ⟨B3, m3, d3, rfl⟩ := T.out.o3.slice
                        obtain ⟨_z0, _z1, q2, q3, q4, _z5⟩ := T.out.md.cells
                        have f2 := T.out.md.fz 2
                        have f3 := T.out.md.fz 3
                        have f4 := T.out.md.fz 4
                        clear _z0 _z1 _z5
                        go_wp2_with fail
                        go_meet
                        exact ⟨_, _, _, ⟨by rw [HFT.out, E1.out, E2.out, E3.out]; exact ((T.out.st2 _).st3 _).st4 _⟩⟩
                      case more27 =>
                        exact AllReadyH.nil
                    case more26 =>
                      exact AllReadyH.nil
                case more18 =>
                  refine AllReadyH.cons (o := ?o33) ?ho33 (fun K hK => ?step33) ?more33
                  case ho33 => simp only [List.getElem?_toArray, List.getElem?_cons_succ, List.getElem?_cons_zero] <;> rfl
                  case step33 =>
                    go_simp
                    have TT := T
                    have T := Box.mk (T.out.alloc (.cells #[.int .i64 z] 3))
                    have CZ : Box ((Wd.alloc (.cells #[.int .i64 z] 3)).cell? ⟨Wd.heap.size, 0, none⟩ = some (.int .i64 z)) := ⟨by simp⟩
                    have NZ : Box (some Wd.heap.size ≠ s1.ownBlock) := ⟨fun e => by have := (TT.out.o1.lt _ e.symm).2; omega⟩
                    refine hK.out _ _ (HSC.out _ _ _ _ _ _ _ T.out) (fun hHeld => ?_)
                    clear hK K
                    try simp only [Act.put, List.setIfInBounds_toArray, List.set_cons_zero, List.set_cons_succ]
                    clear TT
                    generalize Wd.alloc (.cells #[.int .i64 z] 3) = W1 at *
                    generalize Wd.heap.size = bZ at *
                    refine wpAnyH_ready (rs := [3]) (by kernel_rfl) (by simp) ?_
                    refine AllReadyH.cons (o := ?o34) ?ho34 (fun K hK => ?step34) ?more34
                    case ho34 => simp only [List.getElem?_toArray, List.getElem?_cons_succ, List.getElem?_cons_zero] <;> rfl
                    case step34 =>
                      go_simp
                      have TT := T
                      have T := Box.mk (T.out.alloc (.cells #[.string y] 9))
                      have CZ := Box.mk (cell_al (.cells #[.string y] 9) CZ.out)
                      have CY : Box ((W1.alloc (.cells #[.string y] 9)).cell? ⟨W1.heap.size, 0, none⟩ = some (.string y)) := ⟨by simp⟩
                      refine hK.out _ _ (HSC.out _ _ _ _ _ _ _ T.out) (fun hHeld => ?_)
                      clear hK K
                      try simp only [Act.put, List.setIfInBounds_toArray, List.set_cons_zero, List.set_cons_succ]
                      clear TT
                      generalize W1.alloc (.cells #[.string y] 9) = W2 at *
                      generalize W1.heap.size = bY at *
                      refine wpAnyH_ready (rs := [4]) (by kernel_rfl) (by simp) ?_
                      refine AllReadyH.cons (o := ?o35) ?ho35 (fun K hK => ?step35) ?more35
                      case ho35 => simp only [List.getElem?_toArray, List.getElem?_cons_succ, List.getElem?_cons_zero] <;> rfl
                      case step35 =>
                        refine step_app _ (p11 + 1 + 1) rfl _ _ 23 9 rfl (.string ByteArray.empty) 1 16 Try.underlying23 info_str rfl (by decide) (by decide) s1 _ _ rfl T.out.o1 (some ⟨_, 0, none⟩) 1 1 [.string y] rfl (src_cell CY.out rfl) HLA.out T.out.hi ?_
                        intro v1 W3 ho1 hg1 hat1
                        have CZ := Box.mk (hg1.cell CZ.out NZ.out)
                        have T := Box.mk (T.out.app1 ho1 hg1 hat1)
                        clear ho1 hg1 hat1
                        refine hK.out _ _ (HSC.out _ _ _ _ _ _ _ T.out) (fun hHeld => ?_)
                        clear hK K
                        try simp only [Act.put, List.setIfInBounds_toArray, List.set_cons_zero, List.set_cons_succ]
                        refine wpAnyH_take (i := 24) (oi := ?oi36) (v := ?v36) ?ho36 (by kernel_rfl) (by kernel_rfl) (by kernel_rfl) ?hQ36 (Or.inl ⟨?hg36, ?hy36⟩) hHeld ?rest36
                        case ho36 => simp only [List.getElem?_toArray, List.getElem?_cons_succ, List.getElem?_cons_zero] <;> rfl
                        case hQ36 => exact fun _ _ _ h => h
                        case hg36 => rfl
                        case hy36 =>
                          intro w hSw
                          obtain ⟨a1, a2, a3, a4, a5, a6, a7⟩ := hSw
                          go_simp <;> with_reducible rfl
                        try simp only [Act.put, List.setIfInBounds_toArray, List.set_cons_zero, List.set_cons_succ]
                        clear CY
                        refine wpAnyH_ready (rs := [13]) (by kernel_rfl) (by simp) ?_
                        refine AllReadyH.cons (o := ?o37) ?ho37 (fun K hK => ?step37) AllReadyH.nil
                        case ho37 => simp only [List.getElem?_toArray, List.getElem?_cons_succ, List.getElem?_cons_zero] <;> rfl
                        refine step_app _ (p11 + 1 + 1) rfl _ _ 30 3 rfl (.int .i64 0) 1 8 Try.underlying30 info_int rfl (by decide) (by decide) s2 _ _ rfl T.out.o2 (some ⟨_, 0, none⟩) 1 1 [.int .i64 z] rfl (src_cell CZ.out rfl) HLB.out T.out.hi ?_
                        intro v2 W11 ho2 hg2 hat2
                        have T := Box.mk (T.out.app2 ho2 hg2 hat2)
                        clear ho2 hg2 hat2
                        refine hK.out _ _ (HSC.out _ _ _ _ _ _ _ T.out) (fun hHeld => ?_)
                        clear hK K
                        try simp only [Act.put, List.setIfInBounds_toArray, List.set_cons_zero, List.set_cons_succ]
                        refine wpAnyH_ready (rs := [21]) (by kernel_rfl) (by simp) ?_
                        refine AllReadyH.cons (o := ?o38) ?ho38 (fun K hK => ?step38) AllReadyH.nil
                        case ho38 => simp only [List.getElem?_toArray, List.getElem?_cons_succ, List.getElem?_cons_zero] <;> rfl
                        go_simp
                        refine (c_CloneStr A7 n7 c7 l _ (HSL.out _ _ _ _ _ _ _ T.out) HN7.out).mono ?_
                        rintro e W12 ⟨A8, c8, rfl, hs8, hb8⟩
                        have E := Box.mk (T.out.elem hs8)
                        have T := Box.mk (T.out.clone hb8)
                        clear hs8 hb8
                        dsimp only
                        refine hK.out _ _ (HSC.out _ _ _ _ _ _ _ T.out) (fun hHeld => ?_)
                        clear hK K
                        try simp only [Act.put, List.setIfInBounds_toArray, List.set_cons_zero, List.set_cons_succ]
                        refine wpAnyH_ready (rs := [22]) (by kernel_rfl) (by simp) ?_
                        refine AllReadyH.cons (o := ?o39) ?ho39 (fun K hK => ?step39) AllReadyH.nil
                        case ho39 => simp only [List.getElem?_toArray, List.getElem?_cons_succ, List.getElem?_cons_zero] <;> rfl
                        go_simp
                        have T := Box.mk (T.out.alloc (.cells #[.slice A8 n7 c8] 23))
                        have E := Box.mk ((rdSl rdStr).kept E.out (World.grownBy_alloc W12 (.cells #[.slice A8 n7 c8] 23) none) (fun b e => by cases e))
                        have CX := Box.mk (src_one W12 (.slice A8 n7 c8) 23 rfl)
                        refine hK.out _ _ (HSC.out _ _ _ _ _ _ _ T.out) (fun hHeld => ?_)
                        clear hK K
                        try simp only [Act.put, List.setIfInBounds_toArray, List.set_cons_zero, List.set_cons_succ]
                        generalize W12.alloc (.cells #[.slice A8 n7 c8] 23) = W13 at *
                        generalize W12.heap.size = bX at *
                        refine wpAnyH_ready (rs := [23]) (by kernel_rfl) (by simp) ?_
                        refine AllReadyH.cons (o := ?o40) ?ho40 (fun K hK => ?step40) AllReadyH.nil
                        case ho40 => simp only [List.getElem?_toArray, List.getElem?_cons_succ, List.getElem?_cons_zero] <;> rfl
                        obtain ⟨flat, how, PC⟩ := T.out.app3
                        refine step_app _ (p11 + 1 + 1) rfl _ _ 31 23 rfl (.slice none 0 0) 1 24 Try.underlying31 info_sl rfl (by decide) (by decide) s3 _ _ rfl how (some ⟨_, 0, none⟩) 1 1 [.slice A8 n7 c8] rfl CX.out HLC.out T.out.hi ?_
                        intro v3 W14 ho3 hg3 hat3
                        have T := Box.mk (PC l (.slice A8 n7 c8) v3 W14 E.out ho3 hg3 hat3)
                        clear ho3 hg3 hat3 PC how
                        refine hK.out _ _ (HSC.out _ _ _ _ _ _ _ T.out) (fun hHeld => ?_)
                        clear hK K
                        try simp only [Act.put, List.setIfInBounds_toArray, List.set_cons_zero, List.set_cons_succ]
                        refine wpAnyH_done (by kernel_rfl) ?_ _
                        simp only [headQ]
                        obtain ⟨B1, m1, d1, rfl⟩ := own_slice T.out.o1
                        obtain ⟨B2, m2, d2, rfl⟩ := own_slice T.out.o2
                        obtain ⟨B3, m3, d3, rfl⟩ := T.out.o3.slice
                        obtain ⟨_z0, _z1, q2, q3, q4, _z5⟩ := T.out.md.cells
                        have f2 := T.out.md.fz 2
                        have f3 := T.out.md.fz 3
                        have f4 := T.out.md.fz 4
                        clear _z0 _z1 _z5
                        go_wp2_with fail
                        go_meet
                        exact ⟨_, _, _, ⟨by rw [HFT.out, E1.out, E2.out, E3.out]; exact ((T.out.st2 _).st3 _).st4 _⟩⟩
                      case more35 =>
                        exact AllReadyH.nil
                    case more34 =>
                      exact AllReadyH.nil
                  case more33 =>
                    exact AllReadyH.nil
              · have hpy' : pb y = false := by simpa using hpy
                rw [hpy'] at hlook
                rw [if_neg hpy, List.append_nil] at HFT
                clear hpy hpy'
                go_wp2_with fail
                go_meet
                exact ⟨_, _, _, by rw [HFT.out]; exact HT⟩
            case rest =>
              obtain ⟨v1, v2, v3, HT'⟩ := hcut
              clear HT HC5 q0 q1 q2 q3 q4 c5 hlook
              go_wp2_with fail
              go_roundw
              case rel => exact ⟨j + 1, v1, v2, v3, by omega, by go_num, HT'⟩
              case measure => simp [intOf] <;> omega
          · obtain rfl : j = n3 := by omega
            have e : (prM m).take j = prM m := List.take_of_length_le (by rw [prM_length, HM.out.pr.len]; exact Nat.le_refl _)
            rw [e] at HT
            have HDL : Box (((prM m).filter (fun q => pb q.nm)).length ≤ 100) := ⟨Nat.le_trans (List.length_filter_le ..) (by rw [prM_length, HM.out.pr.len]; exact hn1)⟩
            have hlp : ∀ q ∈ ((prM m).filter (fun q => pb q.nm)).map (·.nm), q.size ≤ LIM := by
              intro q hq
              obtain ⟨r, hr, rfl⟩ := List.mem_map.1 hq
              have : r.nm ∈ (prM m).map (·.nm) := List.mem_map.2 ⟨r, (List.mem_filter.1 hr).1, rfl⟩
              rw [prM_nm] at this
              obtain ⟨i, hi⟩ := List.mem_iff_getElem?.1 this
              have hil := (List.getElem?_eq_some_iff.1 hi).1
              rw [HM.out.pr.len] at hil
              obtain ⟨_, _, x', _, _, hx', hs, _⟩ := HM.out.pr.str_at i hil
              rw [hi] at hx'
              injection hx' with hx'
              subst hx'
              exact hs
            have HT1 : Box (((prM m).filter (fun q => pb q.nm)).map (·.nm) = (trimM pb m).pr) := ⟨rfl⟩
            have HT2 : Box (((prM m).filter (fun q => pb q.nm)).map (·.sz) = (trimM pb m).sz) := ⟨rfl⟩
            have HT3 : Box (((prM m).filter (fun q => pb q.nm)).map (·.cl) = (trimM pb m).cl) := ⟨rfl⟩
            have hl1 : (((prM m).filter (fun q => pb q.nm)).map (·.nm)).length ≤ LIM := by rw [List.length_map, LIM_eq]; have := HDL.out; omega
            have hl2 : (((prM m).filter (fun q => pb q.nm)).map (·.sz)).length ≤ LIM := by rw [List.length_map, LIM_eq]; have := HDL.out; omega
            have hl3 : (((prM m).filter (fun q => pb q.nm)).map (·.cl)).length ≤ LIM := by rw [List.length_map, LIM_eq]; have := HDL.out; omega
            have hne : ∀ b, p11 + 1 < b → some b ≠ u9.ownBlock := fun b hb e => by have := HRL.out b e.symm; omega
            obtain ⟨B1, d1, rfl, hs1⟩ := own_strsO (ok := fun b => some b ≠ u9.ownBlock ∧ b < wr.heap.size) HT.out.o1 hlp hl1 (fun b hb => ⟨hne b (HT.out.o1.lt b hb).1, (HT.out.o1.lt b hb).2⟩)
            obtain ⟨B2, d2, rfl, hs2⟩ := own_intsO (ok := fun b => some b ≠ u9.ownBlock ∧ b < wr.heap.size) HT.out.o2 hl2 (fun b hb => ⟨hne b (HT.out.o2.lt b hb).1, (HT.out.o2.lt b hb).2⟩)
            obtain ⟨B3, d3, rfl, hs3⟩ := HT.out.o3.slO (rdSl rdStr) (ok' := fun b => some b ≠ u9.ownBlock ∧ b < wr.heap.size) hl3 (fun b hb h => ⟨hne b h.1, hb⟩) (fun b hb => ⟨hne b (HT.out.o3.lt b hb).1, (HT.out.o3.lt b hb).2⟩)
            have HE : Box (RMdO (fun b => some b ≠ u9.ownBlock ∧ b < wr.heap.size) wr (trimM pb m) [.string m.nm, .int .i64 m.ov, .slice B1 (((prM m).filter (fun q => pb q.nm)).map (·.nm)).length d1, .slice B2 (((prM m).filter (fun q => pb q.nm)).map (·.sz)).length d2, .slice B3 (((prM m).filter (fun q => pb q.nm)).map (·.cl)).length d3]) :=
              ⟨⟨B1, _, d1, B2, _, d2, B3, _, d3, rfl, HM.out.nm, hs1, hs2, hs3⟩⟩
            have HR4 : Box (OwnO (fun b => some b ≠ u9.ownBlock ∧ b < wr.heap.size) wr w2.heap.size 33 5 RMdO u9 (trimL pb (ms.take k))) :=
              ⟨(HRA.out.kept rdMd HT.out.bel (by
                cases hu : u9.ownBlock with
                | none => exact .inl rfl
                | some q => exact .inr (fun e => by injection e with e; have := HRL.out q hu; omega)) (fun b e h => by injection e with e; have := h.2; omega)).weak rdMd (fun b hb h => ⟨h.1, hb⟩)⟩
            have HB4 := Box.mk (HB0.out.grown HT.out.bel HB0.out.size (fun q hq => by injection hq with hq; have := HBS.out; omega))
            have HMB := Box.mk HT.out.md
            have HP : Box (p11 < wr.heap.size) := ⟨by have := HT.out.hi; omega⟩
            obtain ⟨q0, q1, q2, q3, q4, _⟩ := HMB.out.cells
            clear hlp hl1 hl2 hl3 hne hs1 hs2 hs3 e HT HT1 HT2 HT3
            by_cases hq : 0 < (trimM pb m).pr.length
            · have HTK' := HTK.out
              rw [if_pos hq] at HTK'
              have HTK2 := Box.mk HTK'
              have hd : decide (0 < (((prM m).filter (fun q => pb q.nm)).map (·.nm)).length) = true := decide_eq_true hq
              clear HTK' hq
              generalize (((prM m).filter (fun q => pb q.nm)).map (·.nm)).length = l1 at *
              generalize (((prM m).filter (fun q => pb q.nm)).map (·.sz)).length = l2 at *
              generalize (((prM m).filter (fun q => pb q.nm)).map (·.cl)).length = l3 at *
              have HBS4 : Box (w2.heap.size ≤ wr.heap.size) := ⟨HB4.out.size⟩
              have HOL := Box.mk HR4.out.lt
              obtain ⟨flat, how, hpc⟩ := HR4.out.opened rdMd
              have HOW := Box.mk how
              have PC := Box.mk hpc
              have HLB : Box (((trimL pb (ms.take k)).length + 1) * 96 ≤ 140737488355328) := ⟨by have := HK32.out; omega⟩
              clear how hpc
              go_wp2_with (at_builtin; refine wpL_app _ w2.heap.size rfl _ _ 22 33 rfl (.agg #[.string ByteArray.empty, .int .i64 0, .slice none 0 0, .slice none 0 0, .slice none 0 0]) 5 96 Try.underlying22 info_md md_zero_size (by decide) (by decide) u9 _ flat rfl (HOW.out.alloc _) (some ⟨_, 0, none⟩) 1 1 [.string m.nm, .int .i64 m.ov, .slice B1 l1 d1, .slice B2 l2 d2, .slice B3 l3 d3] rfl (src_new_at _ _ _ _ _ rfl rfl (by simp [Value.oneCell'])) HLB.out (Nat.le_trans HBS4.out (bel_alloc _ _).size) ?_; intro v9' wa ho9 hg9' hat9)
              have hg9 := grown_al wr hg9' rfl rfl rfl rfl
              have HN := Box.mk (PC.out wa v9' (trimM pb m) _ rfl HE.out ho9 hg9 (fun b e h => h.1 e.symm))
              have HN2 := Box.mk (HN.out.weak rdMd (ok' := fun b => some b ≠ v9'.ownBlock) (fun b _ h e => by
                rcases hat9 with e2 | e2
                · exact h.1 (e.trans e2)
                · rw [e2] at e; injection e with e; have h3 := h.2; simp at e; omega))
              have HBn := Box.mk (HB4.out.grown hg9 HBS4.out (fun q hq => (HOL.out q hq).1))
              go_roundw
              case rel => exact ⟨k + 1, by omega, by go_num, HBn, by rw [HTK2.out]; exact HN2⟩
              case measure => simp [intOf] <;> omega
            · have HTK' := HTK.out
              rw [if_neg hq, List.append_nil] at HTK'
              have HTK2 := Box.mk HTK'
              have hd : decide (0 < (((prM m).filter (fun q => pb q.nm)).map (·.nm)).length) = false := decide_eq_false hq
              clear HTK' hq
              generalize (((prM m).filter (fun q => pb q.nm)).map (·.nm)).length = l1 at *
              generalize (((prM m).filter (fun q => pb q.nm)).map (·.sz)).length = l2 at *
              generalize (((prM m).filter (fun q => pb q.nm)).map (·.cl)).length = l3 at *
              go_wp2_with fail
              go_roundw
              case rel => exact ⟨k + 1, by omega, by go_num, HB4, by rw [HTK2.out]; exact ⟨HR4.out.weak rdMd (fun b _ h => h.1)⟩⟩
              case measure => simp [intOf] <;> omega
      · obtain rfl : k = n := by omega
        have e : ms.take k = ms := List.take_of_length_le (by rw [H.out.len]; exact Nat.le_refl _)
        rw [e] at HR
        obtain ⟨A', c', e', hs⟩ := HR.out.slr rdMd (by
          have h1 : (trimL pb ms).length ≤ ms.length := Nat.le_trans (List.length_filter_le ..) (by rw [List.length_map]; exact Nat.le_refl _)
          have := HG.out.len
          rw [LIM_eq]; omega)
        have HS' := Box.mk hs
        subst e'
        clear hs HR e
        go_wp2_with fail
        go_ret2
        rw [HO.out]
        exact ⟨_, _, rfl, HS'.out, HBw.out⟩
  · have HO : Box (trm ms x = ([], opf ms x)) := ⟨by simp [trm, h0]⟩
    have h0' : (opf ms x != 0) = true := by simpa using h0
    clear hv
    generalize opf ms x = V at *
    go_wp2_with fail
    go_ret2
    rw [HO.out]
    exact ⟨_, _, rfl, slr_nil _ _ _ _ _, HB1.out⟩
end Go.Proofs.Ytchhjldopecliaa
namespace Go.Proofs.Ytchhjldopecliaa
open Go.RowKit

set_option maxRecDepth 100000 in
set_option maxHeartbeats 8000000 in
theorem r_Trim (A : Option Addr) (n c : Nat) (ms : List Md) (x : Str) (w : World) (h : SlR w 5 RMd A n c ms) :
    Calls Try.prog 32 #[.slice A n c, .string x] w fun e w' => ∃ A' c', e = .returned (.tuple #[.slice A' (trm ms x).1.length c', .int .i64 (trm ms x).2]) ∧ SlR w' 5 RMd A' (trm ms x).1.length c' (trm ms x).1 ∧ Below w.heap.size w w' := by
  have hlim := h.lim
  have H := Box.mk h
  clear h
  go_enter Try.func32, Try.ntmps32
  go_wp2_with fail
  refine (r_from A n c ms x w H.out).mono ?_
  rintro e w1 ⟨⟨v, ki, rfl, hv⟩, hb1⟩
  have HB1 := Box.mk hb1
  clear hb1
  by_cases h0 : opf ms x = 0
  · obtain ⟨kk, pk, hk0, hki, hkn⟩ := (hv h0).at_
    obtain ⟨hop, hg, p0, B, cb, hkf, hf0, rfl, hp⟩ := hv h0
    have HO : Box (trm ms x = (trimL (rchB (prs ms) x) ms, 0)) := ⟨by simp [trm, h0]⟩
    have HPL := hg.plen
    obtain ⟨np, hnp⟩ : ∃ np, np = (prs ms).length := ⟨_, rfl⟩
    rw [← hnp] at hp HPL ⊢
    have HP := Box.mk hp
    have HNP := Box.mk hnp
    have HG := Box.mk hg
    have C := Box.mk (r_reach B np cb (prs ms) x w1 hp hg.nms HPL (opn_all hop) (fun p hp => hg.pcalls hp) hki hkn)
    rw [← hk0] at C
    rw [h0]
    clear hop hg hp h0 hv hki hkn hnp hk0 hkf hf0
    have HMP : Box (∀ m ∈ ms, ∀ q ∈ prM m, q ∈ prs ms) := ⟨fun m hm q hq => List.mem_flatMap.2 ⟨m, hm, hq⟩⟩
    generalize prs ms = ps at *
    go_wp2_with fail
    refine C.out.mono ?_
    rintro e w2 ⟨bo, rfl, hbo, hbl, hb2⟩
    have HB2 := Box.mk (below_tr HB1.out HB1.out.size hb2)
    have HP2 := Box.mk (HP.out.below mono_pc hb2)
    have HBO := Box.mk hbo
    clear hb2 hbo hbl C
    -- at each name, the array tells whether it is reached
    have HFD : Box (∀ y q, q ∈ ps → q.nm = y → ∃ i : Nat, fdx y ps = (i : Int) ∧ i < np ∧ w2.cell? ⟨bo, i, none⟩ = some (.bool (rchB ps x y))) := ⟨fun y q hq hy => by
      rcases fdx_spec y ps with ⟨_, h2⟩ | ⟨i, p, h1, h2, h3⟩
      · exact absurd (List.mem_map.2 ⟨q, hq, hy⟩) (fnd_none.1 h2)
      · refine ⟨i, h1, by rw [HNP.out]; exact (List.getElem?_eq_some_iff.1 h2).1, ?_⟩
        have := HBO.out.cell (j := i) (x := rchB ps x p.nm) (by rw [List.getElem?_map, h2]; rfl)
        rwa [(fnd_some h3).2] at this⟩
    have HBL := Box.mk HBO.out.lt
    generalize rchB ps x = pb at *
    go_wp2_with fail
    go_loopw [10, 11, 12, 13] (fun v10 i _ _ wr => ∃ k : Nat, k ≤ n ∧ i = .int .i64 k ∧ Box (Below w2.heap.size w2 wr) ∧ Box (OwnO (fun b => some b ≠ v10.ownBlock) wr w2.heap.size 33 5 RMdO v10 (trimL pb (ms.take k)))) (fun _ i _ _ _ => n - (intOf i).toNat)
    case atStart => exact ⟨0, Nat.zero_le _, rfl, ⟨Below.refl _ _⟩, ⟨OwnO.nil⟩⟩
    case round =>
      obtain ⟨k, hk, rfl, HB, HR⟩ := hrel
      have HBw := Box.mk (below_tr HB2.out HB2.out.size HB.out)
      by_cases hlt : k < n
      · obtain ⟨b, off, m, A1, n1, c1, A2, n2, c2, A3, n3, c3, rfl, hb, hm, hM, h0, h1, h2, h3, h4⟩ := H.out.md_at k hlt
        replace h0 := cellk HBw.out hb h0
        replace h1 := cellk HBw.out hb h1
        replace h2 := cellk HBw.out hb h2
        replace h3 := cellk HBw.out hb h3
        replace h4 := cellk HBw.out hb h4
        have hmm : m ∈ ms := List.mem_iff_getElem?.2 ⟨k, hm⟩
        obtain ⟨hf1, hf2⟩ := HG.out.fit hmm
        have hpl := HG.out.prlen hmm
        have HMP2 := Box.mk (HMP.out m hmm)
        have HCL : Box (∀ l ∈ m.cl, l.length ≤ 1000000) := ⟨fun l hl => by have := HG.out.calls m hmm l hl; omega⟩
        rw [hM.sz.len, hM.pr.len] at hf1
        rw [hM.cl.len, hM.pr.len] at hf2
        subst hf1 hf2
        have hn1 : n3 ≤ 100 := by rw [← hM.pr.len]; exact hpl
        have HM := Box.mk hM
        have HTK : Box (trimL pb (ms.take (k + 1)) = trimL pb (ms.take k) ++ if 0 < (trimM pb m).pr.length then [trimM pb m] else []) := ⟨by
          unfold trimL
          rw [List.take_add_one, hm, Option.toList_some, List.map_append, List.filter_append]
          by_cases hq : 0 < (trimM pb m).pr.length <;> simp [hq]⟩
        have HK32 : Box ((trimL pb (ms.take k)).length ≤ 32) := ⟨Nat.le_trans (List.length_filter_le ..) (by rw [List.length_map]; exact Nat.le_trans (List.length_take_le' ..) HG.out.len)⟩
        have HB0 : Box (Below w2.heap.size w2 (wr.alloc (.cells #[.string m.nm, .int .i64 m.ov, .slice none 0 0, .slice none 0 0, .slice none 0 0] 33)).drew) := ⟨by have h := bel_alloc2 HB.out (.cells #[.string m.nm, .int .i64 m.ov, .slice none 0 0, .slice none 0 0, .slice none 0 0] 33); exact ⟨h.os, h.tape, h.output, h.size, h.block⟩⟩
        have HRA : Box (OwnO (fun b => some b ≠ u10.ownBlock ∧ b < wr.heap.size) (wr.alloc (.cells #[.string m.nm, .int .i64 m.ov, .slice none 0 0, .slice none 0 0, .slice none 0 0] 33)).drew w2.heap.size 33 5 RMdO u10 (trimL pb (ms.take k))) :=
          ⟨((HR.out.weak rdMd (ok' := fun b => some b ≠ u10.ownBlock ∧ b < wr.heap.size) (fun b hb h => ⟨h, hb⟩)).alloc rdMd (.cells #[.string m.nm, .int .i64 m.ov, .slice none 0 0, .slice none 0 0, .slice none 0 0] 33)).kept rdMd (row := none) ⟨rfl, rfl, rfl, Nat.le_refl _, fun _ _ _ => rfl⟩ (by cases u10.ownBlock <;> simp) (fun b e => by cases e)⟩
        have HRL : Box (∀ q, u10.ownBlock = some q → q < wr.heap.size) := ⟨fun q hq => (HR.out.lt q hq).2⟩
        have HT0 : Box (TrI wr.heap.size (wr.alloc (.cells #[.string m.nm, .int .i64 m.ov, .slice none 0 0, .slice none 0 0, .slice none 0 0] 33)).drew m.nm m.ov (.slice none 0 0) (.slice none 0 0) (.slice none 0 0) (wr.alloc (.cells #[.string m.nm, .int .i64 m.ov, .slice none 0 0, .slice none 0 0, .slice none 0 0] 33)).drew (.slice none 0 0) (.slice none 0 0) (.slice none 0 0) [] [] []) := ⟨by
          refine ⟨World.ownsRow_nil _ _ _ _, World.ownsRow_nil _ _ _ _, OwnO.nil, .inl rfl, .inl rfl, .inl rfl, ?_, World.grownBy.refl _ _, by simp⟩
          exact MdB.new _ _ _ _ _ _⟩
        have HBS : Box (w2.heap.size ≤ wr.heap.size) := ⟨HB.out.size⟩
        have HBC := Box.mk hb
        have HBWS : Box (w.heap.size ≤ wr.heap.size) := ⟨HBw.out.size⟩
        have ne1 : ¬ wr.heap.size = b := by have := HBw.out.size; omega
        have HBW0 := Box.mk (below_tr HB2.out HB2.out.size HB0.out)
        have HMC : Box ((wr.alloc (.cells #[.string m.nm, .int .i64 m.ov, .slice none 0 0, .slice none 0 0, .slice none 0 0] 33)).drew.cell? ⟨b, off + k * 5 + 2, none⟩ = some (.slice A1 n3 c1) ∧ (wr.alloc (.cells #[.string m.nm, .int .i64 m.ov, .slice none 0 0, .slice none 0 0, .slice none 0 0] 33)).drew.cell? ⟨b, off + k * 5 + 3, none⟩ = some (.slice A2 n3 c2) ∧ (wr.alloc (.cells #[.string m.nm, .int .i64 m.ov, .slice none 0 0, .slice none 0 0, .slice none 0 0] 33)).drew.cell? ⟨b, off + k * 5 + 4, none⟩ = some (.slice A3 n3 c3)) :=
          ⟨cell_al _ h2, cell_al _ h3, cell_al _ h4⟩
        clear hm hM hmm hpl hb
        go_upto_region 9 with fail
        go_region_held3 (fun W : World => W.cell? ⟨b, off + k * 5, none⟩ = some (.string m.nm) ∧ W.cell? ⟨b, off + k * 5 + 1, none⟩ = some (.int .i64 m.ov)) (go_keep) (fail)
        clear h0 h1 h2 h3 h4 ne1
        go_upto_region 10 with fail
        generalize (wr.alloc (.cells #[.string m.nm, .int .i64 m.ov, .slice none 0 0, .slice none 0 0, .slice none 0 0] 33)).drew = W0 at *
        clear HB HR HBw
        generalize wr.heap.size = p12 at *
        go_wp2_with fail
        go_loopw [13] (fun i wx => ∃ (j : Nat) (s1 s2 s3 : Value), j ≤ n3 ∧ i = .int .i64 j ∧ Box (TrI p12 W0 m.nm m.ov s1 s2 s3 wx s1 s2 s3 ((((prM m).take j).filter (fun q => pb q.nm)).map (·.nm)) ((((prM m).take j).filter (fun q => pb q.nm)).map (·.sz)) ((((prM m).take j).filter (fun q => pb q.nm)).map (·.cl)))) (fun i _ => n3 - (intOf i).toNat)
        case atStart => exact ⟨0, _, _, _, Nat.zero_le _, rfl, HT0⟩
        case round =>
          obtain ⟨j, s1, s2, s3, hj, rfl, HT⟩ := hrel
          have HNB : Box (some b ≠ some p12) := ⟨fun e => by injection e with e; have := HBC.out; have := HBWS.out; omega⟩
          have m2 := HT.out.bel.cell HMC.out.1 HNB.out
          have m3 := HT.out.bel.cell HMC.out.2.1 HNB.out
          have m4 := HT.out.bel.cell HMC.out.2.2 HNB.out
          by_cases hjl : j < n3
          · obtain ⟨b5, o5, y, rfl, hb5, hy5, hs5, hc5⟩ := HM.out.pr.str_at j hjl
            obtain ⟨b6, o6, z, rfl, hb6, hz6, hc6⟩ := HM.out.sz.int_at j hjl
            obtain ⟨b7, o7, l, A7, n7, c7, rfl, hb7, hl7, hc7, hs7⟩ := HM.out.cl.sl_at j hjl
            obtain ⟨e1, e2, _e3⟩ := pcOf_at hy5 hz6
            have e4 := pcOf_cl hl7
            have HC5 : Box (wr.cell? ⟨b5, o5 + j, none⟩ = some (.string y)) := ⟨HT.out.bel.cell (cellk HBW0.out hb5 hc5) (fun e => by simp at e; have := HBWS.out; omega)⟩
            have HSC : Box (∀ (s1 s2 s3 : Value) (W : World) (u1 u2 u3 : Value) (ys : List Str) (zs : List Int) (cs : List (List Str)), TrI p12 W0 m.nm m.ov s1 s2 s3 W u1 u2 u3 ys zs cs →
                W.cell? ⟨p12, 2, none⟩ = some s1 ∧ W.cell? ⟨p12, 3, none⟩ = some s2 ∧ W.cell? ⟨p12, 4, none⟩ = some s3 ∧ W.cell? ⟨b, off + k * 5 + 2, none⟩ = some (.slice (some ⟨b5, o5, none⟩) n3 c1) ∧ W.cell? ⟨b, off + k * 5 + 3, none⟩ = some (.slice (some ⟨b6, o6, none⟩) n3 c2) ∧ W.cell? ⟨b, off + k * 5 + 4, none⟩ = some (.slice (some ⟨b7, o7, none⟩) n3 c3) ∧
                W.cell? ⟨b5, o5 + j, none⟩ = some (.string y) ∧ W.cell? ⟨b6, o6 + j, none⟩ = some (.int .i64 z) ∧ W.cell? ⟨b7, o7 + j, none⟩ = some (.slice A7 n7 c7)) := ⟨fun s1 s2 s3 W u1 u2 u3 ys zs cs T => by
              obtain ⟨_, _, k2, k3, k4, _⟩ := T.md.cells
              exact ⟨k2, k3, k4, T.bel.cell HMC.out.1 HNB.out, T.bel.cell HMC.out.2.1 HNB.out, T.bel.cell HMC.out.2.2 HNB.out, T.bel.cell (cellk HBW0.out hb5 hc5) (fun e => by simp at e; have := HBWS.out; omega), T.bel.cell (cellk HBW0.out hb6 hc6) (fun e => by simp at e; have := HBWS.out; omega), T.bel.cell (cellk HBW0.out hb7 hc7) (fun e => by simp at e; have := HBWS.out; omega)⟩⟩
            have HSL : Box (∀ (s1 s2 s3 : Value) (W : World) (u1 u2 u3 : Value) (ys : List Str) (zs : List Int) (cs : List (List Str)), TrI p12 W0 m.nm m.ov s1 s2 s3 W u1 u2 u3 ys zs cs → SlR W 1 RStr A7 n7 c7 l) := ⟨fun s1 s2 s3 W u1 u2 u3 ys zs cs T =>
              hs7.below mono_str (HBW0.out.grown T.bel HBW0.out.size (fun q hq => by injection hq with hq; have := HBWS.out; omega))⟩
            have hl7n : l.length ≤ 1000000 := HCL.out l (List.mem_iff_getElem?.2 ⟨j, hl7⟩)
            have HL7 : Box (l.length = n7) := ⟨hs7.len⟩
            have HLL : Box (l.length ≤ LIM) := ⟨by rw [LIM_eq]; omega⟩
            have HLD : Box ((0 + n7) * 16 ≤ 140737488355328) := ⟨by rw [← hs7.len]; omega⟩
            have HZ7 : Box (∀ q ∈ l, q.size ≤ LIM) := ⟨fun q hq => by
              obtain ⟨i, hi⟩ := List.mem_iff_getElem?.1 hq
              have hil := (List.getElem?_eq_some_iff.1 hi).1
              rw [hs7.len] at hil
              obtain ⟨_, _, x', _, _, hx', hs, _⟩ := hs7.str_at i hil
              rw [hi] at hx'
              injection hx' with hx'
              subst hx'
              exact hs⟩
            have hjm : j < m.pr.length := by rw [HM.out.pr.len]; exact hjl
            obtain ⟨fi, hfi, hfn, hbc0⟩ := HFD.out y (pcOf m j) (HMP2.out _ (List.mem_iff_getElem?.2 ⟨j, prM_get m j hjm⟩)) e1
            have HFX := Box.mk hfi
            have hbc := HT.out.bel.cell (cellk HB0.out HBL.out hbc0) (fun e => by simp at e; have := HBL.out; have := HBS.out; omega)
            have HFT : Box (((prM m).take (j + 1)).filter (fun q => pb q.nm) = ((prM m).take j).filter (fun q => pb q.nm) ++ if pb y then [pcOf m j] else []) := ⟨by
              rw [prM_take m j hjm, List.filter_append]
              congr 1
              by_cases hq : pb y = true <;> simp [e1, hq]⟩
            have HPC := Box.mk (And.intro e1 (And.intro e2 e4))
            have HDL : Box ((((prM m).take j).filter (fun q => pb q.nm)).length ≤ 100) := ⟨Nat.le_trans (List.length_filter_le ..) (by rw [List.length_take]; omega)⟩
            have i0 : (0 : Int) ≤ (j : Int) := by omega
            have i1 : (j : Int) < (n3 : Int) := by omega
            have k0 : (0 : Int) ≤ (k : Int) := by omega
            have k1 : (k : Int) < (n : Int) := by omega
            have HP3 : Box (SlR wr 4 RPc B np cb ps) := ⟨HP2.out.below mono_pc (HB0.out.grown HT.out.bel HB0.out.size (fun q hq => by injection hq with hq; have := HBS.out; omega))⟩
            generalize ((prM m).take j).filter (fun q => pb q.nm) = D at *
            have c5 := HC5.out
            clear hb5 hb6 hb7 hy5 hz6 hl7 hc5 hc6 hc7 hs7 e1 e2 e4 _e3 hjm hl7n hfi hbc0
            go_upto_block 3 with fail
            go_cut [] (fun wx => ∃ v1 v2 v3, Box (TrI p12 W0 m.nm m.ov v1 v2 v3 wx v1 v2 v3 ((((prM m).take (j + 1)).filter (fun q => pb q.nm)).map (·.nm)) ((((prM m).take (j + 1)).filter (fun q => pb q.nm)).map (·.sz)) ((((prM m).take (j + 1)).filter (fun q => pb q.nm)).map (·.cl))))
            case first =>
              have C := Box.mk (r_find y B np cb ps wr HP3.out)
              go_wp2_with fail
              refine C.out.mono ?_
              rintro e _ ⟨rfl, rfl⟩
              rw [HFX.out]
              by_cases hpy : pb y = true
              · rw [hpy] at hbc
                rw [if_pos hpy] at HFT
                clear hpy
                go_upto_region 14 with fail
                clear hbc c5 m2 m3 m4
                have E1 : Box ((D ++ [pcOf m j]).map (·.nm) = D.map (·.nm) ++ [y]) := ⟨by rw [List.map_append]; simp [HPC.out.1]⟩
                have E2 : Box ((D ++ [pcOf m j]).map (·.sz) = D.map (·.sz) ++ [z]) := ⟨by rw [List.map_append]; simp [HPC.out.2.1]⟩
                have E3 : Box ((D ++ [pcOf m j]).map (·.cl) = D.map (·.cl) ++ [l]) := ⟨by rw [List.map_append]; simp [HPC.out.2.2]⟩
                have HLA : Box (((D.map (·.nm)).length + 1) * 16 ≤ 140737488355328) := ⟨by rw [List.length_map]; have := HDL.out; omega⟩
                have HLB : Box (((D.map (·.sz)).length + 1) * 8 ≤ 140737488355328) := ⟨by rw [List.length_map]; have := HDL.out; omega⟩
                have HLC : Box (((D.map (·.cl)).length + 1) * 24 ≤ 140737488355328) := ⟨by rw [List.length_map]; have := HDL.out; omega⟩
                have T := HT
                clear HT HC5 HP3 C
                have T := Box.mk T.out.drew
                refine wp_region_head (hd := ?hdl14) (tl := ?tll14) (S := fun W => W.cell? ⟨p12, 2, none⟩ = some s1 ∧ W.cell? ⟨p12, 3, none⟩ = some s2 ∧ W.cell? ⟨p12, 4, none⟩ = some s3 ∧ W.cell? ⟨b, off + k * 5 + 2, none⟩ = some (.slice (some ⟨b5, o5, none⟩) n3 c1) ∧ W.cell? ⟨b, off + k * 5 + 3, none⟩ = some (.slice (some ⟨b6, o6, none⟩) n3 c2) ∧ W.cell? ⟨b, off + k * 5 + 4, none⟩ = some (.slice (some ⟨b7, o7, none⟩) n3 c3) ∧ W.cell? ⟨b5, o5 + j, none⟩ = some (.string y) ∧ W.cell? ⟨b6, o6 + j, none⟩ = some (.int .i64 z) ∧ W.cell? ⟨b7, o7 + j, none⟩ = some (.slice A7 n7 c7)) 12 (by kernel_rfl) (by kernel_rfl) ?hd14 ?tl14 (HSC.out _ _ _ _ _ _ _ _ _ _ T.out) (fun hHeld => ?walk14)
                case hd14 => simp only [List.take_succ_cons, List.take_zero] <;> rfl
                case tl14 => simp only [List.drop_succ_cons, List.drop_zero] <;> rfl
                generalize wr.drew = Wd at *
                refine wpAnyH_take (i := 0) (oi := ?oi1) (v := ?v1) ?ho1 (by kernel_rfl) (by kernel_rfl) (by kernel_rfl) ?hQ1 (Or.inl ⟨?hg1, ?hy1⟩) hHeld ?rest1
                case ho1 => simp only [List.getElem?_toArray, List.getElem?_cons_zero] <;> rfl
                case hQ1 => exact fun _ _ _ h => h
                case hg1 => rfl
                case hy1 =>
                  intro w hSw
                  obtain ⟨a1, a2, a3, a4, a5, a6, a7, a8, a9⟩ := hSw
                  go_simp <;> with_reducible rfl
                try simp only [Act.put, List.setIfInBounds_toArray, List.set_cons_zero, List.set_cons_succ]
                refine wpAnyH_take (i := 1) (oi := ?oi2) (v := ?v2) ?ho2 (by kernel_rfl) (by kernel_rfl) (by kernel_rfl) ?hQ2 (Or.inl ⟨?hg2, ?hy2⟩) hHeld ?rest2
                case ho2 => simp only [List.getElem?_toArray, List.getElem?_cons_succ, List.getElem?_cons_zero] <;> rfl
                case hQ2 => exact fun _ _ _ h => h
                case hg2 => rfl
                case hy2 =>
                  intro w hSw
                  obtain ⟨a1, a2, a3, a4, a5, a6, a7, a8, a9⟩ := hSw
                  go_simp <;> with_reducible rfl
                try simp only [Act.put, List.setIfInBounds_toArray, List.set_cons_zero, List.set_cons_succ]
                refine wpAnyH_take (i := 2) (oi := ?oi3) (v := ?v3) ?ho3 (by kernel_rfl) (by kernel_rfl) (by kernel_rfl) ?hQ3 (Or.inl ⟨?hg3, ?hy3⟩) hHeld ?rest3
                case ho3 => simp only [List.getElem?_toArray, List.getElem?_cons_succ, List.getElem?_cons_zero] <;> rfl
                case hQ3 => exact fun _ _ _ h => h
                case hg3 => rfl
                case hy3 =>
                  intro w hSw
                  obtain ⟨a1, a2, a3, a4, a5, a6, a7, a8, a9⟩ := hSw
                  go_simp <;> with_reducible rfl
                try simp only [Act.put, List.setIfInBounds_toArray, List.set_cons_zero, List.set_cons_succ]
                refine wpAnyH_take (i := 3) (oi := ?oi4) (v := ?v4) ?ho4 (by kernel_rfl) (by kernel_rfl) (by kernel_rfl) ?hQ4 (Or.inl ⟨?hg4, ?hy4⟩) hHeld ?rest4
                case ho4 => simp only [List.getElem?_toArray, List.getElem?_cons_succ, List.getElem?_cons_zero] <;> rfl
                case hQ4 => exact fun _ _ _ h => h
                case hg4 => rfl
                case hy4 =>
                  intro w hSw
                  obtain ⟨a1, a2, a3, a4, a5, a6, a7, a8, a9⟩ := hSw
                  go_simp <;> with_reducible rfl
                try simp only [Act.put, List.setIfInBounds_toArray, List.set_cons_zero, List.set_cons_succ]
                refine wpAnyH_take (i := 4) (oi := ?oi5) (v := ?v5) ?ho5 (by kernel_rfl) (by kernel_rfl) (by kernel_rfl) ?hQ5 (Or.inl ⟨?hg5, ?hy5⟩) hHeld ?rest5
                case ho5 => simp only [List.getElem?_toArray, List.getElem?_cons_succ, List.getElem?_cons_zero] <;> rfl
                case hQ5 => exact fun _ _ _ h => h
                case hg5 => rfl
                case hy5 =>
                  intro w hSw
                  obtain ⟨a1, a2, a3, a4, a5, a6, a7, a8, a9⟩ := hSw
                  go_simp <;> with_reducible rfl
                try simp only [Act.put, List.setIfInBounds_toArray, List.set_cons_zero, List.set_cons_succ]
                refine wpAnyH_take (i := 5) (oi := ?oi6) (v := ?v6) ?ho6 (by kernel_rfl) (by kernel_rfl) (by kernel_rfl) ?hQ6 (Or.inl ⟨?hg6, ?hy6⟩) hHeld ?rest6
                case ho6 => simp only [List.getElem?_toArray, List.getElem?_cons_succ, List.getElem?_cons_zero] <;> rfl
                case hQ6 => exact fun _ _ _ h => h
                case hg6 => rfl
                case hy6 =>
                  intro w hSw
                  obtain ⟨a1, a2, a3, a4, a5, a6, a7, a8, a9⟩ := hSw
                  go_simp <;> with_reducible rfl
                try simp only [Act.put, List.setIfInBounds_toArray, List.set_cons_zero, List.set_cons_succ]
                refine wpAnyH_take (i := 6) (oi := ?oi7) (v := ?v7) ?ho7 (by kernel_rfl) (by kernel_rfl) (by kernel_rfl) ?hQ7 (Or.inl ⟨?hg7, ?hy7⟩) hHeld ?rest7
                case ho7 => simp only [List.getElem?_toArray, List.getElem?_cons_succ, List.getElem?_cons_zero] <;> rfl
                case hQ7 => exact fun _ _ _ h => h
                case hg7 => rfl
                case hy7 =>
                  intro w hSw
                  obtain ⟨a1, a2, a3, a4, a5, a6, a7, a8, a9⟩ := hSw
                  go_simp <;> with_reducible rfl
                try simp only [Act.put, List.setIfInBounds_toArray, List.set_cons_zero, List.set_cons_succ]
                refine wpAnyH_take (i := 7) (oi := ?oi8) (v := ?v8) ?ho8 (by kernel_rfl) (by kernel_rfl) (by kernel_rfl) ?hQ8 (Or.inl ⟨?hg8, ?hy8⟩) hHeld ?rest8
                case ho8 => simp only [List.getElem?_toArray, List.getElem?_cons_succ, List.getElem?_cons_zero] <;> rfl
                case hQ8 => exact fun _ _ _ h => h
                case hg8 => rfl
                case hy8 =>
                  intro w hSw
                  obtain ⟨a1, a2, a3, a4, a5, a6, a7, a8, a9⟩ := hSw
                  go_simp <;> with_reducible rfl
                try simp only [Act.put, List.setIfInBounds_toArray, List.set_cons_zero, List.set_cons_succ]
                refine wpAnyH_take (i := 8) (oi := ?oi9) (v := ?v9) ?ho9 (by kernel_rfl) (by kernel_rfl) (by kernel_rfl) ?hQ9 (Or.inl ⟨?hg9, ?hy9⟩) hHeld ?rest9
                case ho9 => simp only [List.getElem?_toArray, List.getElem?_cons_succ, List.getElem?_cons_zero] <;> rfl
                case hQ9 => exact fun _ _ _ h => h
                case hg9 => rfl
                case hy9 =>
                  intro w hSw
                  obtain ⟨a1, a2, a3, a4, a5, a6, a7, a8, a9⟩ := hSw
                  go_simp <;> with_reducible rfl
                try simp only [Act.put, List.setIfInBounds_toArray, List.set_cons_zero, List.set_cons_succ]
                refine wpAnyH_take (i := 9) (oi := ?oi10) (v := ?v10) ?ho10 (by kernel_rfl) (by kernel_rfl) (by kernel_rfl) ?hQ10 (Or.inl ⟨?hg10, ?hy10⟩) hHeld ?rest10
                case ho10 => simp only [List.getElem?_toArray, List.getElem?_cons_succ, List.getElem?_cons_zero] <;> rfl
                case hQ10 => exact fun _ _ _ h => h
                case hg10 => rfl
                case hy10 =>
                  intro w hSw
                  obtain ⟨a1, a2, a3, a4, a5, a6, a7, a8, a9⟩ := hSw
                  go_simp <;> with_reducible rfl
                try simp only [Act.put, List.setIfInBounds_toArray, List.set_cons_zero, List.set_cons_succ]
                refine wpAnyH_ready (rs := [10]) (by kernel_rfl) (by simp) ?_
                refine AllReadyH.cons (o := ?o11) ?ho11 (fun K hK => ?step11) AllReadyH.nil
                case ho11 => simp only [List.getElem?_toArray, List.getElem?_cons_succ, List.getElem?_cons_zero] <;> rfl
                go_simp
                have CX := Box.mk (src_one Wd (.string y) 9 rfl)
                have T := Box.mk (T.out.alloc (.cells #[.string y] 9))
                refine hK.out _ _ (HSC.out _ _ _ _ _ _ _ _ _ _ T.out) (fun hHeld => ?_)
                clear hK K
                try simp only [Act.put, List.setIfInBounds_toArray, List.set_cons_zero, List.set_cons_succ]
                generalize Wd.alloc (.cells #[.string y] 9) = W11 at *
                generalize Wd.heap.size = bX14 at *
                refine wpAnyH_ready (rs := [11]) (by kernel_rfl) (by simp) ?_
                refine AllReadyH.cons (o := ?o12) ?ho12 (fun K hK => ?step12) AllReadyH.nil
                case ho12 => simp only [List.getElem?_toArray, List.getElem?_cons_succ, List.getElem?_cons_zero] <;> rfl
                refine step_app _ (p12 + 1) rfl _ _ 23 9 rfl (.string ByteArray.empty) 1 16 Try.underlying23 info_str rfl (by decide) (by decide) s1 _ _ rfl T.out.o1 (some ⟨_, 0, none⟩) 1 1 [.string y] rfl CX.out HLA.out T.out.hi ?_
                intro v1 W12 ho1 hg1 hat1
                have T := Box.mk (T.out.app1 ho1 hg1 hat1)
                clear ho1 hg1 hat1
                obtain ⟨X1, m1, d1, rfl⟩ := own_slice T.out.o1
                refine hK.out _ _ (HSC.out _ _ _ _ _ _ _ _ _ _ T.out) (fun hHeld => ?_)
                clear hK K
                try simp only [Act.put, List.setIfInBounds_toArray, List.set_cons_zero, List.set_cons_succ]
                refine wpAnyH_done (by kernel_rfl) ?_ _
                simp only [headQ]
                obtain ⟨_z0, _z1, q2, q3, q4, _z5⟩ := T.out.md.cells
                have ff := T.out.md.fz 2
                clear _z0 _z1 _z5 hHeld
                have T := Box.mk (T.out.st2 (.slice X1 m1 d1))
                go_upto_region 15 with fail
                clear q2 q3 q4 ff
                generalize W12.setCell ⟨p12, 2, none⟩ (.slice X1 m1 d1) = W15 at *
                generalize hv14 : Value.slice X1 m1 d1 = v1 at *
                clear hv14
                have T := Box.mk T.out.drew
                refine wp_region_head (hd := ?hdl15) (tl := ?tll15) (S := fun W => W.cell? ⟨p12, 2, none⟩ = some v1 ∧ W.cell? ⟨p12, 3, none⟩ = some s2 ∧ W.cell? ⟨p12, 4, none⟩ = some s3 ∧ W.cell? ⟨b, off + k * 5 + 2, none⟩ = some (.slice (some ⟨b5, o5, none⟩) n3 c1) ∧ W.cell? ⟨b, off + k * 5 + 3, none⟩ = some (.slice (some ⟨b6, o6, none⟩) n3 c2) ∧ W.cell? ⟨b, off + k * 5 + 4, none⟩ = some (.slice (some ⟨b7, o7, none⟩) n3 c3) ∧ W.cell? ⟨b5, o5 + j, none⟩ = some (.string y) ∧ W.cell? ⟨b6, o6 + j, none⟩ = some (.int .i64 z) ∧ W.cell? ⟨b7, o7 + j, none⟩ = some (.slice A7 n7 c7)) 12 (by kernel_rfl) (by kernel_rfl) ?hd15 ?tl15 (HSC.out _ _ _ _ _ _ _ _ _ _ T.out) (fun hHeld => ?walk15)
                case hd15 => simp only [List.take_succ_cons, List.take_zero] <;> rfl
                case tl15 => simp only [List.drop_succ_cons, List.drop_zero] <;> rfl
                generalize W15.drew = We at *
                refine wpAnyH_take (i := 0) (oi := ?oi13) (v := ?v13) ?ho13 (by kernel_rfl) (by kernel_rfl) (by kernel_rfl) ?hQ13 (Or.inl ⟨?hg13, ?hy13⟩) hHeld ?rest13
                case ho13 => simp only [List.getElem?_toArray, List.getElem?_cons_zero] <;> rfl
                case hQ13 => exact fun _ _ _ h => h
                case hg13 => rfl
                case hy13 =>
                  intro w hSw
                  obtain ⟨a1, a2, a3, a4, a5, a6, a7, a8, a9⟩ := hSw
                  go_simp <;> with_reducible rfl
                try simp only [Act.put, List.setIfInBounds_toArray, List.set_cons_zero, List.set_cons_succ]
                refine wpAnyH_take (i := 1) (oi := ?oi14) (v := ?v14) ?ho14 (by kernel_rfl) (by kernel_rfl) (by kernel_rfl) ?hQ14 (Or.inl ⟨?hg14, ?hy14⟩) hHeld ?rest14
                case ho14 => simp only [List.getElem?_toArray, List.getElem?_cons_succ, List.getElem?_cons_zero] <;> rfl
                case hQ14 => exact fun _ _ _ h => h
                case hg14 => rfl
                case hy14 =>
                  intro w hSw
                  obtain ⟨a1, a2, a3, a4, a5, a6, a7, a8, a9⟩ := hSw
                  go_simp <;> with_reducible rfl
                try simp only [Act.put, List.setIfInBounds_toArray, List.set_cons_zero, List.set_cons_succ]
                refine wpAnyH_take (i := 2) (oi := ?oi15) (v := ?v15) ?ho15 (by kernel_rfl) (by kernel_rfl) (by kernel_rfl) ?hQ15 (Or.inl ⟨?hg15, ?hy15⟩) hHeld ?rest15
                case ho15 => simp only [List.getElem?_toArray, List.getElem?_cons_succ, List.getElem?_cons_zero] <;> rfl
                case hQ15 => exact fun _ _ _ h => h
                case hg15 => rfl
                case hy15 =>
                  intro w hSw
                  obtain ⟨a1, a2, a3, a4, a5, a6, a7, a8, a9⟩ := hSw
                  go_simp <;> with_reducible rfl
                try simp only [Act.put, List.setIfInBounds_toArray, List.set_cons_zero, List.set_cons_succ]
                refine wpAnyH_take (i := 3) (oi := ?oi16) (v := ?v16) ?ho16 (by kernel_rfl) (by kernel_rfl) (by kernel_rfl) ?hQ16 (Or.inl ⟨?hg16, ?hy16⟩) hHeld ?rest16
                case ho16 => simp only [List.getElem?_toArray, List.getElem?_cons_succ, List.getElem?_cons_zero] <;> rfl
                case hQ16 => exact fun _ _ _ h => h
                case hg16 => rfl
                case hy16 =>
                  intro w hSw
                  obtain ⟨a1, a2, a3, a4, a5, a6, a7, a8, a9⟩ := hSw
                  go_simp <;> with_reducible rfl
                try simp only [Act.put, List.setIfInBounds_toArray, List.set_cons_zero, List.set_cons_succ]
                refine wpAnyH_take (i := 4) (oi := ?oi17) (v := ?v17) ?ho17 (by kernel_rfl) (by kernel_rfl) (by kernel_rfl) ?hQ17 (Or.inl ⟨?hg17, ?hy17⟩) hHeld ?rest17
                case ho17 => simp only [List.getElem?_toArray, List.getElem?_cons_succ, List.getElem?_cons_zero] <;> rfl
                case hQ17 => exact fun _ _ _ h => h
                case hg17 => rfl
                case hy17 =>
                  intro w hSw
                  obtain ⟨a1, a2, a3, a4, a5, a6, a7, a8, a9⟩ := hSw
                  go_simp <;> with_reducible rfl
                try simp only [Act.put, List.setIfInBounds_toArray, List.set_cons_zero, List.set_cons_succ]
                refine wpAnyH_take (i := 5) (oi := ?oi18) (v := ?v18) ?ho18 (by kernel_rfl) (by kernel_rfl) (by kernel_rfl) ?hQ18 (Or.inl ⟨?hg18, ?hy18⟩) hHeld ?rest18
                case ho18 => simp only [List.getElem?_toArray, List.getElem?_cons_succ, List.getElem?_cons_zero] <;> rfl
                case hQ18 => exact fun _ _ _ h => h
                case hg18 => rfl
                case hy18 =>
                  intro w hSw
                  obtain ⟨a1, a2, a3, a4, a5, a6, a7, a8, a9⟩ := hSw
                  go_simp <;> with_reducible rfl
                try simp only [Act.put, List.setIfInBounds_toArray, List.set_cons_zero, List.set_cons_succ]
                refine wpAnyH_take (i := 6) (oi := ?oi19) (v := ?v19) ?ho19 (by kernel_rfl) (by kernel_rfl) (by kernel_rfl) ?hQ19 (Or.inl ⟨?hg19, ?hy19⟩) hHeld ?rest19
                case ho19 => simp only [List.getElem?_toArray, List.getElem?_cons_succ, List.getElem?_cons_zero] <;> rfl
                case hQ19 => exact fun _ _ _ h => h
                case hg19 => rfl
                case hy19 =>
                  intro w hSw
                  obtain ⟨a1, a2, a3, a4, a5, a6, a7, a8, a9⟩ := hSw
                  go_simp <;> with_reducible rfl
                try simp only [Act.put, List.setIfInBounds_toArray, List.set_cons_zero, List.set_cons_succ]
                refine wpAnyH_take (i := 7) (oi := ?oi20) (v := ?v20) ?ho20 (by kernel_rfl) (by kernel_rfl) (by kernel_rfl) ?hQ20 (Or.inl ⟨?hg20, ?hy20⟩) hHeld ?rest20
                case ho20 => simp only [List.getElem?_toArray, List.getElem?_cons_succ, List.getElem?_cons_zero] <;> rfl
                case hQ20 => exact fun _ _ _ h => h
                case hg20 => rfl
                case hy20 =>
                  intro w hSw
                  obtain ⟨a1, a2, a3, a4, a5, a6, a7, a8, a9⟩ := hSw
                  go_simp <;> with_reducible rfl
                try simp only [Act.put, List.setIfInBounds_toArray, List.set_cons_zero, List.set_cons_succ]
                refine wpAnyH_take (i := 8) (oi := ?oi21) (v := ?v21) ?ho21 (by kernel_rfl) (by kernel_rfl) (by kernel_rfl) ?hQ21 (Or.inl ⟨?hg21, ?hy21⟩) hHeld ?rest21
                case ho21 => simp only [List.getElem?_toArray, List.getElem?_cons_succ, List.getElem?_cons_zero] <;> rfl
                case hQ21 => exact fun _ _ _ h => h
                case hg21 => rfl
                case hy21 =>
                  intro w hSw
                  obtain ⟨a1, a2, a3, a4, a5, a6, a7, a8, a9⟩ := hSw
                  go_simp <;> with_reducible rfl
                try simp only [Act.put, List.setIfInBounds_toArray, List.set_cons_zero, List.set_cons_succ]
                refine wpAnyH_take (i := 9) (oi := ?oi22) (v := ?v22) ?ho22 (by kernel_rfl) (by kernel_rfl) (by kernel_rfl) ?hQ22 (Or.inl ⟨?hg22, ?hy22⟩) hHeld ?rest22
                case ho22 => simp only [List.getElem?_toArray, List.getElem?_cons_succ, List.getElem?_cons_zero] <;> rfl
                case hQ22 => exact fun _ _ _ h => h
                case hg22 => rfl
                case hy22 =>
                  intro w hSw
                  obtain ⟨a1, a2, a3, a4, a5, a6, a7, a8, a9⟩ := hSw
                  go_simp <;> with_reducible rfl
                try simp only [Act.put, List.setIfInBounds_toArray, List.set_cons_zero, List.set_cons_succ]
                refine wpAnyH_ready (rs := [10]) (by kernel_rfl) (by simp) ?_
                refine AllReadyH.cons (o := ?o23) ?ho23 (fun K hK => ?step23) AllReadyH.nil
                case ho23 => simp only [List.getElem?_toArray, List.getElem?_cons_succ, List.getElem?_cons_zero] <;> rfl
                go_simp
                have CX := Box.mk (src_one We (.int .i64 z) 3 rfl)
                have T := Box.mk (T.out.alloc (.cells #[.int .i64 z] 3))
                refine hK.out _ _ (HSC.out _ _ _ _ _ _ _ _ _ _ T.out) (fun hHeld => ?_)
                clear hK K
                try simp only [Act.put, List.setIfInBounds_toArray, List.set_cons_zero, List.set_cons_succ]
                generalize We.alloc (.cells #[.int .i64 z] 3) = W21 at *
                generalize We.heap.size = bX15 at *
                refine wpAnyH_ready (rs := [11]) (by kernel_rfl) (by simp) ?_
                refine AllReadyH.cons (o := ?o24) ?ho24 (fun K hK => ?step24) AllReadyH.nil
                case ho24 => simp only [List.getElem?_toArray, List.getElem?_cons_succ, List.getElem?_cons_zero] <;> rfl
                refine step_app _ (p12 + 1) rfl _ _ 30 3 rfl (.int .i64 0) 1 8 Try.underlying30 info_int rfl (by decide) (by decide) s2 _ _ rfl T.out.o2 (some ⟨_, 0, none⟩) 1 1 [.int .i64 z] rfl CX.out HLB.out T.out.hi ?_
                intro v2 W22 ho2 hg2 hat2
                have T := Box.mk (T.out.app2 ho2 hg2 hat2)
                clear ho2 hg2 hat2
                obtain ⟨X2, m2, d2, rfl⟩ := own_slice T.out.o2
                refine hK.out _ _ (HSC.out _ _ _ _ _ _ _ _ _ _ T.out) (fun hHeld => ?_)
                clear hK K
                try simp only [Act.put, List.setIfInBounds_toArray, List.set_cons_zero, List.set_cons_succ]
                refine wpAnyH_done (by kernel_rfl) ?_ _
                simp only [headQ]
                obtain ⟨_z0, _z1, q2, q3, q4, _z5⟩ := T.out.md.cells
                have ff := T.out.md.fz 3
                clear _z0 _z1 _z5 hHeld
                have T := Box.mk (T.out.st3 (.slice X2 m2 d2))
                go_upto_region 16 with fail
                clear q2 q3 q4 ff
                generalize W22.setCell ⟨p12, 3, none⟩ (.slice X2 m2 d2) = W25 at *
                generalize hv15 : Value.slice X2 m2 d2 = v2 at *
                clear hv15
                have T := Box.mk T.out.drew
                refine wp_region_head (hd := ?hdl16) (tl := ?tll16) (S := fun W => W.cell? ⟨p12, 2, none⟩ = some v1 ∧ W.cell? ⟨p12, 3, none⟩ = some v2 ∧ W.cell? ⟨p12, 4, none⟩ = some s3 ∧ W.cell? ⟨b, off + k * 5 + 2, none⟩ = some (.slice (some ⟨b5, o5, none⟩) n3 c1) ∧ W.cell? ⟨b, off + k * 5 + 3, none⟩ = some (.slice (some ⟨b6, o6, none⟩) n3 c2) ∧ W.cell? ⟨b, off + k * 5 + 4, none⟩ = some (.slice (some ⟨b7, o7, none⟩) n3 c3) ∧ W.cell? ⟨b5, o5 + j, none⟩ = some (.string y) ∧ W.cell? ⟨b6, o6 + j, none⟩ = some (.int .i64 z) ∧ W.cell? ⟨b7, o7 + j, none⟩ = some (.slice A7 n7 c7)) 13 (by kernel_rfl) (by kernel_rfl) ?hd16 ?tl16 (HSC.out _ _ _ _ _ _ _ _ _ _ T.out) (fun hHeld => ?walk16)
                case hd16 => simp only [List.take_succ_cons, List.take_zero] <;> rfl
                case tl16 => simp only [List.drop_succ_cons, List.drop_zero] <;> rfl
                generalize W25.drew = Wf at *
                refine wpAnyH_take (i := 0) (oi := ?oi25) (v := ?v25) ?ho25 (by kernel_rfl) (by kernel_rfl) (by kernel_rfl) ?hQ25 (Or.inl ⟨?hg25, ?hy25⟩) hHeld ?rest25
                case ho25 => simp only [List.getElem?_toArray, List.getElem?_cons_zero] <;> rfl
                case hQ25 => exact fun _ _ _ h => h
                case hg25 => rfl
                case hy25 =>
                  intro w hSw
                  obtain ⟨a1, a2, a3, a4, a5, a6, a7, a8, a9⟩ := hSw
                  go_simp <;> with_reducible rfl
                try simp only [Act.put, List.setIfInBounds_toArray, List.set_cons_zero, List.set_cons_succ]
                refine wpAnyH_take (i := 1) (oi := ?oi26) (v := ?v26) ?ho26 (by kernel_rfl) (by kernel_rfl) (by kernel_rfl) ?hQ26 (Or.inl ⟨?hg26, ?hy26⟩) hHeld ?rest26
                case ho26 => simp only [List.getElem?_toArray, List.getElem?_cons_succ, List.getElem?_cons_zero] <;> rfl
                case hQ26 => exact fun _ _ _ h => h
                case hg26 => rfl
                case hy26 =>
                  intro w hSw
                  obtain ⟨a1, a2, a3, a4, a5, a6, a7, a8, a9⟩ := hSw
                  go_simp <;> with_reducible rfl
                try simp only [Act.put, List.setIfInBounds_toArray, List.set_cons_zero, List.set_cons_succ]
                refine wpAnyH_take (i := 2) (oi := ?oi27) (v := ?v27) ?ho27 (by kernel_rfl) (by kernel_rfl) (by kernel_rfl) ?hQ27 (Or.inl ⟨?hg27, ?hy27⟩) hHeld ?rest27
                case ho27 => simp only [List.getElem?_toArray, List.getElem?_cons_succ, List.getElem?_cons_zero] <;> rfl
                case hQ27 => exact fun _ _ _ h => h
                case hg27 => rfl
                case hy27 =>
                  intro w hSw
                  obtain ⟨a1, a2, a3, a4, a5, a6, a7, a8, a9⟩ := hSw
                  go_simp <;> with_reducible rfl
                try simp only [Act.put, List.setIfInBounds_toArray, List.set_cons_zero, List.set_cons_succ]
                refine wpAnyH_take (i := 3) (oi := ?oi28) (v := ?v28) ?ho28 (by kernel_rfl) (by kernel_rfl) (by kernel_rfl) ?hQ28 (Or.inl ⟨?hg28, ?hy28⟩) hHeld ?rest28
                case ho28 => simp only [List.getElem?_toArray, List.getElem?_cons_succ, List.getElem?_cons_zero] <;> rfl
                case hQ28 => exact fun _ _ _ h => h
                case hg28 => rfl
                case hy28 =>
                  intro w hSw
                  obtain ⟨a1, a2, a3, a4, a5, a6, a7, a8, a9⟩ := hSw
                  go_simp <;> with_reducible rfl
                try simp only [Act.put, List.setIfInBounds_toArray, List.set_cons_zero, List.set_cons_succ]
                refine wpAnyH_take (i := 4) (oi := ?oi29) (v := ?v29) ?ho29 (by kernel_rfl) (by kernel_rfl) (by kernel_rfl) ?hQ29 (Or.inl ⟨?hg29, ?hy29⟩) hHeld ?rest29
                case ho29 => simp only [List.getElem?_toArray, List.getElem?_cons_succ, List.getElem?_cons_zero] <;> rfl
                case hQ29 => exact fun _ _ _ h => h
                case hg29 => rfl
                case hy29 =>
                  intro w hSw
                  obtain ⟨a1, a2, a3, a4, a5, a6, a7, a8, a9⟩ := hSw
                  go_simp <;> with_reducible rfl
                try simp only [Act.put, List.setIfInBounds_toArray, List.set_cons_zero, List.set_cons_succ]
                refine wpAnyH_take (i := 5) (oi := ?oi30) (v := ?v30) ?ho30 (by kernel_rfl) (by kernel_rfl) (by kernel_rfl) ?hQ30 (Or.inl ⟨?hg30, ?hy30⟩) hHeld ?rest30
                case ho30 => simp only [List.getElem?_toArray, List.getElem?_cons_succ, List.getElem?_cons_zero] <;> rfl
                case hQ30 => exact fun _ _ _ h => h
                case hg30 => rfl
                case hy30 =>
                  intro w hSw
                  obtain ⟨a1, a2, a3, a4, a5, a6, a7, a8, a9⟩ := hSw
                  go_simp <;> with_reducible rfl
                try simp only [Act.put, List.setIfInBounds_toArray, List.set_cons_zero, List.set_cons_succ]
                refine wpAnyH_take (i := 6) (oi := ?oi31) (v := ?v31) ?ho31 (by kernel_rfl) (by kernel_rfl) (by kernel_rfl) ?hQ31 (Or.inl ⟨?hg31, ?hy31⟩) hHeld ?rest31
                case ho31 => simp only [List.getElem?_toArray, List.getElem?_cons_succ, List.getElem?_cons_zero] <;> rfl
                case hQ31 => exact fun _ _ _ h => h
                case hg31 => rfl
                case hy31 =>
                  intro w hSw
                  obtain ⟨a1, a2, a3, a4, a5, a6, a7, a8, a9⟩ := hSw
                  go_simp <;> with_reducible rfl
                try simp only [Act.put, List.setIfInBounds_toArray, List.set_cons_zero, List.set_cons_succ]
                refine wpAnyH_take (i := 7) (oi := ?oi32) (v := ?v32) ?ho32 (by kernel_rfl) (by kernel_rfl) (by kernel_rfl) ?hQ32 (Or.inl ⟨?hg32, ?hy32⟩) hHeld ?rest32
                case ho32 => simp only [List.getElem?_toArray, List.getElem?_cons_succ, List.getElem?_cons_zero] <;> rfl
                case hQ32 => exact fun _ _ _ h => h
                case hg32 => rfl
                case hy32 =>
                  intro w hSw
                  obtain ⟨a1, a2, a3, a4, a5, a6, a7, a8, a9⟩ := hSw
                  go_simp <;> with_reducible rfl
                try simp only [Act.put, List.setIfInBounds_toArray, List.set_cons_zero, List.set_cons_succ]
                refine wpAnyH_take (i := 8) (oi := ?oi33) (v := ?v33) ?ho33 (by kernel_rfl) (by kernel_rfl) (by kernel_rfl) ?hQ33 (Or.inl ⟨?hg33, ?hy33⟩) hHeld ?rest33
                case ho33 => simp only [List.getElem?_toArray, List.getElem?_cons_succ, List.getElem?_cons_zero] <;> rfl
                case hQ33 => exact fun _ _ _ h => h
                case hg33 => rfl
                case hy33 =>
                  intro w hSw
                  obtain ⟨a1, a2, a3, a4, a5, a6, a7, a8, a9⟩ := hSw
                  go_simp <;> with_reducible rfl
                try simp only [Act.put, List.setIfInBounds_toArray, List.set_cons_zero, List.set_cons_succ]
                refine wpAnyH_take (i := 9) (oi := ?oi34) (v := ?v34) ?ho34 (by kernel_rfl) (by kernel_rfl) (by kernel_rfl) ?hQ34 (Or.inl ⟨?hg34, ?hy34⟩) hHeld ?rest34
                case ho34 => simp only [List.getElem?_toArray, List.getElem?_cons_succ, List.getElem?_cons_zero] <;> rfl
                case hQ34 => exact fun _ _ _ h => h
                case hg34 => rfl
                case hy34 =>
                  intro w hSw
                  obtain ⟨a1, a2, a3, a4, a5, a6, a7, a8, a9⟩ := hSw
                  go_simp <;> with_reducible rfl
                try simp only [Act.put, List.setIfInBounds_toArray, List.set_cons_zero, List.set_cons_succ]
                refine wpAnyH_ready (rs := [10]) (by kernel_rfl) (by simp) ?_
                refine AllReadyH.cons (o := ?o35) ?ho35 (fun K hK => ?step35) AllReadyH.nil
                case ho35 => simp only [List.getElem?_toArray, List.getElem?_cons_succ, List.getElem?_cons_zero] <;> rfl
                refine step_app _ Wf.heap.size rfl _ _ 23 9 rfl (.string ByteArray.empty) 1 16 Try.underlying23 info_str rfl (by decide) (by decide) (.slice none 0 0) 0 [] rfl (World.ownsRow_nil _ _ _ _) A7 n7 c7 (l.map Value.string) rfl (src_strs (HSL.out _ _ _ _ _ _ _ _ _ _ T.out)) HLD.out (Nat.le_refl _) ?_
                intro v7 W31 ho7 hg7 _hat7
                rw [Nat.zero_add, List.nil_append, ← HL7.out] at ho7
                obtain ⟨X7, d7, rfl, hs7⟩ := own_strsO (ok := fun b => Wf.heap.size ≤ b) ho7 HZ7.out HLL.out (fun b hb => (ho7.lt b hb).1)
                have E := Box.mk (T.out.elem hs7)
                have T := Box.mk (T.out.clone ⟨hg7.os, hg7.tape, hg7.output, hg7.size, fun i hi => hg7.block i hi (by simp [Value.ownBlock])⟩)
                clear hs7 ho7 hg7 _hat7
                refine hK.out _ _ (HSC.out _ _ _ _ _ _ _ _ _ _ T.out) (fun hHeld => ?_)
                clear hK K
                try simp only [Act.put, List.setIfInBounds_toArray, List.set_cons_zero, List.set_cons_succ]
                refine wpAnyH_ready (rs := [11]) (by kernel_rfl) (by simp) ?_
                refine AllReadyH.cons (o := ?o36) ?ho36 (fun K hK => ?step36) AllReadyH.nil
                case ho36 => simp only [List.getElem?_toArray, List.getElem?_cons_succ, List.getElem?_cons_zero] <;> rfl
                go_simp
                have CX := Box.mk (src_one W31 (.slice X7 l.length d7) 23 rfl)
                have E := Box.mk ((rdSl rdStr).kept E.out (World.grownBy_alloc W31 (.cells #[.slice X7 l.length d7] 23) none) (fun b e => by cases e))
                have T := Box.mk (T.out.alloc (.cells #[.slice X7 l.length d7] 23))
                refine hK.out _ _ (HSC.out _ _ _ _ _ _ _ _ _ _ T.out) (fun hHeld => ?_)
                clear hK K
                try simp only [Act.put, List.setIfInBounds_toArray, List.set_cons_zero, List.set_cons_succ]
                generalize W31.alloc (.cells #[.slice X7 l.length d7] 23) = W32 at *
                generalize W31.heap.size = bX16 at *
                refine wpAnyH_ready (rs := [12]) (by kernel_rfl) (by simp) ?_
                refine AllReadyH.cons (o := ?o37) ?ho37 (fun K hK => ?step37) AllReadyH.nil
                case ho37 => simp only [List.getElem?_toArray, List.getElem?_cons_succ, List.getElem?_cons_zero] <;> rfl
                obtain ⟨flat, how, PC⟩ := T.out.app3
                refine step_app _ (p12 + 1) rfl _ _ 31 23 rfl (.slice none 0 0) 1 24 Try.underlying31 info_sl rfl (by decide) (by decide) s3 _ _ rfl how (some ⟨_, 0, none⟩) 1 1 [.slice X7 l.length d7] rfl CX.out HLC.out T.out.hi ?_
                intro v3 W33 ho3 hg3 hat3
                have T := Box.mk (PC l (.slice X7 l.length d7) v3 W33 E.out ho3 hg3 hat3)
                clear ho3 hg3 hat3 PC how
                obtain ⟨X3, m3, d3, rfl⟩ := T.out.o3.slice
                refine hK.out _ _ (HSC.out _ _ _ _ _ _ _ _ _ _ T.out) (fun hHeld => ?_)
                clear hK K
                try simp only [Act.put, List.setIfInBounds_toArray, List.set_cons_zero, List.set_cons_succ]
                refine wpAnyH_done (by kernel_rfl) ?_ _
                simp only [headQ]
                obtain ⟨_z0, _z1, q2, q3, q4, _z5⟩ := T.out.md.cells
                have ff := T.out.md.fz 4
                clear _z0 _z1 _z5 hHeld
                go_wp2_with fail
                go_meet
                exact ⟨_, _, _, ⟨by rw [HFT.out, E1.out, E2.out, E3.out]; exact T.out.st4 _⟩⟩
              · have hpy' : pb y = false := by simpa using hpy
                rw [hpy'] at hbc
                rw [if_neg hpy, List.append_nil] at HFT
                clear hpy hpy'
                go_wp2_with fail
                go_meet
                exact ⟨_, _, _, by rw [HFT.out]; exact HT⟩
            case rest =>
              obtain ⟨v1, v2, v3, HT'⟩ := hcut
              clear HT HC5 c5 hbc HP3
              go_wp2_with fail
              go_roundw
              case rel => exact ⟨j + 1, v1, v2, v3, by omega, by go_num, HT'⟩
              case measure => simp [intOf] <;> omega
          · obtain rfl : j = n3 := by omega
            have e : (prM m).take j = prM m := List.take_of_length_le (by rw [prM_length, HM.out.pr.len]; exact Nat.le_refl _)
            rw [e] at HT
            have HDL : Box (((prM m).filter (fun q => pb q.nm)).length ≤ 100) := ⟨Nat.le_trans (List.length_filter_le ..) (by rw [prM_length, HM.out.pr.len]; exact hn1)⟩
            have hlp : ∀ q ∈ ((prM m).filter (fun q => pb q.nm)).map (·.nm), q.size ≤ LIM := by
              intro q hq
              obtain ⟨r, hr, rfl⟩ := List.mem_map.1 hq
              have : r.nm ∈ (prM m).map (·.nm) := List.mem_map.2 ⟨r, (List.mem_filter.1 hr).1, rfl⟩
              rw [prM_nm] at this
              obtain ⟨i, hi⟩ := List.mem_iff_getElem?.1 this
              have hil := (List.getElem?_eq_some_iff.1 hi).1
              rw [HM.out.pr.len] at hil
              obtain ⟨_, _, x', _, _, hx', hs, _⟩ := HM.out.pr.str_at i hil
              rw [hi] at hx'
              injection hx' with hx'
              subst hx'
              exact hs
            have HT1 : Box (((prM m).filter (fun q => pb q.nm)).map (·.nm) = (trimM pb m).pr) := ⟨rfl⟩
            have HT2 : Box (((prM m).filter (fun q => pb q.nm)).map (·.sz) = (trimM pb m).sz) := ⟨rfl⟩
            have HT3 : Box (((prM m).filter (fun q => pb q.nm)).map (·.cl) = (trimM pb m).cl) := ⟨rfl⟩
            have hl1 : (((prM m).filter (fun q => pb q.nm)).map (·.nm)).length ≤ LIM := by rw [List.length_map, LIM_eq]; have := HDL.out; omega
            have hl2 : (((prM m).filter (fun q => pb q.nm)).map (·.sz)).length ≤ LIM := by rw [List.length_map, LIM_eq]; have := HDL.out; omega
            have hl3 : (((prM m).filter (fun q => pb q.nm)).map (·.cl)).length ≤ LIM := by rw [List.length_map, LIM_eq]; have := HDL.out; omega
            have hne : ∀ b, p12 < b → some b ≠ u10.ownBlock := fun b hb e => by have := HRL.out b e.symm; omega
            obtain ⟨B1, d1, rfl, hs1⟩ := own_strsO (ok := fun b => some b ≠ u10.ownBlock ∧ b < wr.heap.size) HT.out.o1 hlp hl1 (fun b hb => ⟨hne b (HT.out.o1.lt b hb).1, (HT.out.o1.lt b hb).2⟩)
            obtain ⟨B2, d2, rfl, hs2⟩ := own_intsO (ok := fun b => some b ≠ u10.ownBlock ∧ b < wr.heap.size) HT.out.o2 hl2 (fun b hb => ⟨hne b (HT.out.o2.lt b hb).1, (HT.out.o2.lt b hb).2⟩)
            obtain ⟨B3, d3, rfl, hs3⟩ := HT.out.o3.slO (rdSl rdStr) (ok' := fun b => some b ≠ u10.ownBlock ∧ b < wr.heap.size) hl3 (fun b hb h => ⟨hne b h.1, hb⟩) (fun b hb => ⟨hne b (HT.out.o3.lt b hb).1, (HT.out.o3.lt b hb).2⟩)
            have HE : Box (RMdO (fun b => some b ≠ u10.ownBlock ∧ b < wr.heap.size) wr (trimM pb m) [.string m.nm, .int .i64 m.ov, .slice B1 (((prM m).filter (fun q => pb q.nm)).map (·.nm)).length d1, .slice B2 (((prM m).filter (fun q => pb q.nm)).map (·.sz)).length d2, .slice B3 (((prM m).filter (fun q => pb q.nm)).map (·.cl)).length d3]) :=
              ⟨⟨B1, _, d1, B2, _, d2, B3, _, d3, rfl, HM.out.nm, hs1, hs2, hs3⟩⟩
            have HR4 : Box (OwnO (fun b => some b ≠ u10.ownBlock ∧ b < wr.heap.size) wr w2.heap.size 33 5 RMdO u10 (trimL pb (ms.take k))) :=
              ⟨(HRA.out.kept rdMd HT.out.bel (by
                cases hu : u10.ownBlock with
                | none => exact .inl rfl
                | some q => exact .inr (fun e => by injection e with e; have := HRL.out q hu; omega)) (fun b e h => by injection e with e; have := h.2; omega)).weak rdMd (fun b hb h => ⟨h.1, hb⟩)⟩
            have HB4 := Box.mk (HB0.out.grown HT.out.bel HB0.out.size (fun q hq => by injection hq with hq; have := HBS.out; omega))
            have HMB := Box.mk HT.out.md
            have HP : Box (p12 < wr.heap.size) := ⟨by have := HT.out.hi; omega⟩
            obtain ⟨q0, q1, q2, q3, q4, _⟩ := HMB.out.cells
            clear hlp hl1 hl2 hl3 hne hs1 hs2 hs3 e HT HT1 HT2 HT3
            by_cases hq : 0 < (trimM pb m).pr.length
            · have HTK' := HTK.out
              rw [if_pos hq] at HTK'
              have HTK2 := Box.mk HTK'
              have hd : decide (0 < (((prM m).filter (fun q => pb q.nm)).map (·.nm)).length) = true := decide_eq_true hq
              clear HTK' hq
              generalize (((prM m).filter (fun q => pb q.nm)).map (·.nm)).length = l1 at *
              generalize (((prM m).filter (fun q => pb q.nm)).map (·.sz)).length = l2 at *
              generalize (((prM m).filter (fun q => pb q.nm)).map (·.cl)).length = l3 at *
              have HBS4 : Box (w2.heap.size ≤ wr.heap.size) := ⟨HB4.out.size⟩
              have HOL := Box.mk HR4.out.lt
              obtain ⟨flat, how, hpc⟩ := HR4.out.opened rdMd
              have HOW := Box.mk how
              have PC := Box.mk hpc
              have HLB : Box (((trimL pb (ms.take k)).length + 1) * 96 ≤ 140737488355328) := ⟨by have := HK32.out; omega⟩
              clear how hpc
              go_wp2_with (at_builtin; refine wpL_app _ w2.heap.size rfl _ _ 22 33 rfl (.agg #[.string ByteArray.empty, .int .i64 0, .slice none 0 0, .slice none 0 0, .slice none 0 0]) 5 96 Try.underlying22 info_md md_zero_size (by decide) (by decide) u10 _ flat rfl (HOW.out.alloc _) (some ⟨_, 0, none⟩) 1 1 [.string m.nm, .int .i64 m.ov, .slice B1 l1 d1, .slice B2 l2 d2, .slice B3 l3 d3] rfl (src_new_at _ _ _ _ _ rfl rfl (by simp [Value.oneCell'])) HLB.out (Nat.le_trans HBS4.out (bel_alloc _ _).size) ?_; intro v10' wa ho10 hg10' hat10)
              have hg10 := grown_al wr hg10' rfl rfl rfl rfl
              have HN := Box.mk (PC.out wa v10' (trimM pb m) _ rfl HE.out ho10 hg10 (fun b e h => h.1 e.symm))
              have HN2 := Box.mk (HN.out.weak rdMd (ok' := fun b => some b ≠ v10'.ownBlock) (fun b _ h e => by
                rcases hat10 with e2 | e2
                · exact h.1 (e.trans e2)
                · rw [e2] at e; injection e with e; have h3 := h.2; simp at e; omega))
              have HBn := Box.mk (HB4.out.grown hg10 HBS4.out (fun q hq => (HOL.out q hq).1))
              go_roundw
              case rel => exact ⟨k + 1, by omega, by go_num, HBn, by rw [HTK2.out]; exact HN2⟩
              case measure => simp [intOf] <;> omega
            · have HTK' := HTK.out
              rw [if_neg hq, List.append_nil] at HTK'
              have HTK2 := Box.mk HTK'
              have hd : decide (0 < (((prM m).filter (fun q => pb q.nm)).map (·.nm)).length) = false := decide_eq_false hq
              clear HTK' hq
              generalize (((prM m).filter (fun q => pb q.nm)).map (·.nm)).length = l1 at *
              generalize (((prM m).filter (fun q => pb q.nm)).map (·.sz)).length = l2 at *
              generalize (((prM m).filter (fun q => pb q.nm)).map (·.cl)).length = l3 at *
              go_wp2_with fail
              go_roundw
              case rel => exact ⟨k + 1, by omega, by go_num, HB4, by rw [HTK2.out]; exact ⟨HR4.out.weak rdMd (fun b _ h => h.1)⟩⟩
              case measure => simp [intOf] <;> omega
      · obtain rfl : k = n := by omega
        have e : ms.take k = ms := List.take_of_length_le (by rw [H.out.len]; exact Nat.le_refl _)
        rw [e] at HR
        obtain ⟨A', c', e', hs⟩ := HR.out.slr rdMd (by
          have h1 : (trimL pb ms).length ≤ ms.length := Nat.le_trans (List.length_filter_le ..) (by rw [List.length_map]; exact Nat.le_refl _)
          have := HG.out.len
          rw [LIM_eq]; omega)
        have HS' := Box.mk hs
        subst e'
        clear hs HR e
        go_wp2_with fail
        go_ret2
        rw [HO.out]
        exact ⟨_, _, rfl, HS'.out, HBw.out⟩
  · have HO : Box (trm ms x = ([], opf ms x)) := ⟨by simp [trm, h0]⟩
    have h0' : (opf ms x != 0) = true := by simpa using h0
    clear hv
    generalize opf ms x = V at *
    go_wp2_with fail
    go_ret2
    rw [HO.out]
    exact ⟨_, _, rfl, slr_nil _ _ _ _ _, HB1.out⟩
end Go.Proofs.Ytchhjldopecliaa
namespace Go.Proofs.Ytchhjldopecliaa
open Go.RowKit

set_option maxRecDepth 100000 in
set_option maxHeartbeats 4000000 in
theorem c_LinkReaches (A : Option Addr) (n c : Nat) (ms : List Md) (x : Str) (w : World) (h : SlR w 5 RMd A n c ms) (hx : x.size ≤ LIM) :
    Calls Try.prog 8 #[.slice A n c, .string x] w fun e w' => e = .returned (.bool true) ∧ Below w.heap.size w w' := by
  have hlim := h.lim
  have H := Box.mk h
  clear h
  rw [LIM_eq] at hx
  go_enter Try.func8, Try.ntmps8
  go_wp2_with fail
  refine (c_over A n c ms w H.out).mono ?_
  rintro e w1 ⟨⟨q, rfl, hq⟩, hb1⟩
  have HB1 := Box.mk hb1
  clear hb1 hq
  cases q
  case true =>
    go_wp2_with fail
    refine (c_known w1).mono ?_
    rintro e w2 ⟨rfl, hb2⟩
    have HB2 := Box.mk (below_tr HB1.out HB1.out.size hb2)
    clear hb2
    go_wp2_with fail
    go_ret
    exact ⟨rfl, HB2.out⟩
  case false =>
  by_cases hxm : ((x.size : Nat) : Int) ≤ 65536
  case neg =>
    go_wp2_with fail
    refine (c_known w1).mono ?_
    rintro e w2 ⟨rfl, hb2⟩
    have HB2 := Box.mk (below_tr HB1.out HB1.out.size hb2)
    clear hb2
    go_wp2_with fail
    go_ret
    exact ⟨rfl, HB2.out⟩
  case pos =>
  go_wp2_with fail
  refine (c_Reach A n c ms x w1 (H.out.below mono_md HB1.out)).mono ?_
  rintro e w2 ⟨B1, d1, rfl, hs2, hb2⟩
  have HB2 := Box.mk (below_tr HB1.out HB1.out.size hb2)
  have HS2 := Box.mk hs2
  clear hb2 hs2
  have CR := Box.mk (r_Reach A n c ms x w2 (H.out.below mono_md HB2.out))
  obtain ⟨nr, hnr⟩ : ∃ nr, nr = (rea ms x).1.length := ⟨_, rfl⟩
  rw [← hnr] at HS2 CR ⊢
  clear hnr
  generalize (rea ms x).1 = rs at *
  generalize (rea ms x).2 = E at *
  go_wp2_with fail
  refine CR.out.mono ?_
  rintro e w3 ⟨B2, d2, rfl, hs3, hb3⟩
  have HB3 := Box.mk (below_tr HB2.out HB2.out.size hb3)
  have HS3 := Box.mk hs3
  have HS2' := Box.mk (HS2.out.below mono_str hb3)
  clear hb3 hs3 CR HS2
  have CT := Box.mk (c_Trim A n c ms x w3 (H.out.below mono_md HB3.out))
  have CU := Box.mk (fun w (h : Below w3.heap.size w3 w) => r_Trim A n c ms x w (H.out.below mono_md (below_tr HB3.out HB3.out.size h)))
  obtain ⟨nm, hnm⟩ : ∃ nm, nm = (trm ms x).1.length := ⟨_, rfl⟩
  rw [← hnm] at CT CU
  clear hnm
  generalize (trm ms x).1 = xs at *
  generalize (trm ms x).2 = F at *
  go_wp2_with fail
  refine CT.out.mono ?_
  rintro e w4 ⟨B3, d3, rfl, hs4, hb4⟩
  have HB4 := Box.mk (below_tr HB3.out HB3.out.size hb4)
  have HS4 := Box.mk hs4
  have HT2 := Box.mk (HS2'.out.below mono_str hb4)
  have HT3 := Box.mk (HS3.out.below mono_str hb4)
  have CU' := Box.mk (CU.out w4 hb4)
  clear hb4 hs4 CT CU HS3 HS2'
  go_wp2_with fail
  refine CU'.out.mono ?_
  rintro e w5 ⟨B4, d4, rfl, hs5, hb5⟩
  have HB5 := Box.mk (below_tr HB4.out HB4.out.size hb5)
  have HS5 := Box.mk hs5
  have HU2 := Box.mk (HT2.out.below mono_str hb5)
  have HU3 := Box.mk (HT3.out.below mono_str hb5)
  have HU4 := Box.mk (HS4.out.below mono_md hb5)
  clear hb5 hs5 CU' HT2 HT3 HS4
  go_wp2_with fail
  refine (c_SameTexts B1 nr d1 B2 d2 rs w5 HU2.out HU3.out).mono ?_
  rintro e w6 ⟨rfl, hb6⟩
  have HB6 := Box.mk (below_tr HB5.out HB5.out.size hb6)
  have HV4 := Box.mk (HU4.out.below mono_md hb6)
  have HV5 := Box.mk (HS5.out.below mono_md hb6)
  clear hb6 HU2 HU3 HU4 HS5
  go_wp2_with fail
  refine (r_Same B3 nm d3 xs B4 nm d4 xs w6 HV4.out HV5.out).mono ?_
  rintro e w7 ⟨rfl, hb7⟩
  have HB7 := Box.mk (below_tr HB6.out HB6.out.size hb7)
  clear hb7
  rw [eqMds_iff.2 (rfl : xs = xs)]
  go_wp2_with fail
  refine (c_known w7).mono ?_
  rintro e w9 ⟨rfl, hb9⟩
  have HB9 := Box.mk (below_tr HB7.out HB7.out.size hb9)
  clear hb9
  go_wp2_with fail
  go_ret
  exact ⟨rfl, HB9.out⟩
end Go.Proofs.Ytchhjldopecliaa
namespace Go.Proofs.Ytchhjldopecliaa
open Go.RowKit

theorem prM_at {m : Md} {q : Pc} (h : q ∈ prM m) : ∃ i, i < m.pr.length ∧ q = pcOf m i := by
  obtain ⟨i, hi, rfl⟩ := List.mem_map.1 h
  exact ⟨i, List.mem_range.1 hi, rfl⟩
theorem prM_trim (p : Str → Bool) (m : Md) : prM (trimM p m) = (prM m).filter (fun q => p q.nm) := by
  apply List.ext_getElem?
  intro i
  have hl : (trimM p m).pr.length = ((prM m).filter (fun q => p q.nm)).length := by simp [trimM]
  by_cases h : i < ((prM m).filter (fun q => p q.nm)).length
  · rw [prM_get _ _ (by rw [hl]; exact h), List.getElem?_eq_getElem h]
    congr 1
    have hm : ((prM m).filter (fun q => p q.nm))[i] ∈ prM m := (List.mem_filter.1 (List.getElem_mem h)).1
    have hov : ((prM m).filter (fun q => p q.nm))[i].ov = m.ov := by
      obtain ⟨j, _, e⟩ := prM_at hm
      rw [e]
      rfl
    unfold pcOf
    have e1 : (trimM p m).pr.getD i ByteArray.empty = ((prM m).filter (fun q => p q.nm))[i].nm := getD_some (by simp [trimM, h])
    have e2 : (trimM p m).sz.getD i 0 = ((prM m).filter (fun q => p q.nm))[i].sz := getD_some (by simp [trimM, h])
    have e3 : (trimM p m).cl.getD i [] = ((prM m).filter (fun q => p q.nm))[i].cl := getD_some (by simp [trimM, h])
    rw [e1, e2, e3, show (trimM p m).ov = m.ov from rfl, ← hov]
  · rw [List.getElem?_eq_none (by rw [prM_length, hl]; omega), List.getElem?_eq_none (by omega)]
theorem prs_nonempty (ms : List Md) : prs (ms.filter (fun m => decide (0 < m.pr.length))) = prs ms := by
  induction ms with
  | nil => rfl
  | cons m r ih =>
    unfold prs at *
    by_cases h : 0 < m.pr.length
    · rw [List.filter_cons_of_pos (by simpa using h), List.flatMap_cons, List.flatMap_cons, ih]
    · rw [List.filter_cons_of_neg (by simpa using h), ih, List.flatMap_cons]
      have : prM m = [] := List.eq_nil_of_length_eq_zero (by rw [prM_length]; omega)
      rw [this, List.nil_append]
theorem prs_trim (p : Str → Bool) (ms : List Md) : prs (trimL p ms) = (prs ms).filter (fun q => p q.nm) := by
  unfold trimL
  rw [prs_nonempty]
  induction ms with
  | nil => rfl
  | cons m r ih =>
    unfold prs at *
    rw [List.map_cons, List.flatMap_cons, List.flatMap_cons, List.filter_append, ih, prM_trim]
theorem fnd_filter (p : Str → Bool) (ps : List Pc) (y : Str) : fnd y (ps.filter (fun q => p q.nm)) = if p y then fnd y ps else none := by
  unfold fnd
  induction ps with
  | nil => simp
  | cons q r ih =>
    by_cases hq : p q.nm = true
    · rw [List.filter_cons_of_pos (p := fun q : Pc => p q.nm) hq]
      by_cases e : q.nm = y
      · subst e
        simp [hq]
      · rw [List.find?_cons_of_neg (by simpa using e), List.find?_cons_of_neg (by simpa using e), ih]
    · rw [List.filter_cons_of_neg (p := fun q : Pc => p q.nm) hq, ih]
      by_cases e : q.nm = y
      · subst e
        simp [hq]
      · rw [List.find?_cons_of_neg (by simpa using e)]
theorem clOf_filter (p : Str → Bool) (ps : List Pc) (y : Str) : clOf (ps.filter (fun q => p q.nm)) y = if p y then clOf ps y else [] := by
  unfold clOf
  rw [fnd_filter]
  by_cases h : p y = true <;> simp [h]
theorem ovOf_filter {p : Str → Bool} (ps : List Pc) {y : Str} (h : p y = true) : ovOf (ps.filter (fun q => p q.nm)) y = ovOf ps y := by
  unfold ovOf
  rw [fnd_filter, if_pos h]
theorem Rch_filter {ps : List Pc} {x y : Str} : Rch (ps.filter (fun q => rchB ps x q.nm)) x y ↔ Rch ps x y := by
  constructor
  · intro h
    induction h with
    | here => exact .here
    | call _ hz ih =>
      rw [clOf_filter, if_pos (rchB_iff.2 ih)] at hz
      exact .call ih hz
  · intro h
    induction h with
    | here => exact .here
    | call hy hz ih => exact .call ih (by rw [clOf_filter, if_pos (rchB_iff.2 hy)]; exact hz)
theorem rchB_filter (ps : List Pc) (x : Str) : rchB (ps.filter (fun q => rchB ps x q.nm)) x = rchB ps x := by
  funext y
  rw [Bool.eq_iff_iff, rchB_iff, rchB_iff]
  exact Rch_filter
theorem trimM_twice (p : Str → Bool) (m : Md) : trimM p (trimM p m) = trimM p m := by
  have h : (prM (trimM p m)).filter (fun q => p q.nm) = (prM m).filter (fun q => p q.nm) := by
    rw [prM_trim, List.filter_filter]
    simp
  rw [show trimM p (trimM p m) = ⟨m.nm, m.ov, ((prM (trimM p m)).filter (fun q => p q.nm)).map (·.nm), ((prM (trimM p m)).filter (fun q => p q.nm)).map (·.sz), ((prM (trimM p m)).filter (fun q => p q.nm)).map (·.cl)⟩ from rfl, h]
  rfl
theorem mem_trimL {p : Str → Bool} {ms : List Md} {m' : Md} (h : m' ∈ trimL p ms) : ∃ m ∈ ms, m' = trimM p m ∧ 0 < m'.pr.length := by
  obtain ⟨h1, h2⟩ := List.mem_filter.1 h
  obtain ⟨m, hm, rfl⟩ := List.mem_map.1 h1
  exact ⟨m, hm, rfl, by simpa using h2⟩
theorem trimL_twice (p : Str → Bool) (ms : List Md) : trimL p (trimL p ms) = trimL p ms := by
  have h : (trimL p ms).map (trimM p) = trimL p ms := by
    conv => rhs; rw [← List.map_id (trimL p ms)]
    refine List.map_congr_left fun m' hm => ?_
    obtain ⟨m, _, rfl, _⟩ := mem_trimL hm
    exact trimM_twice p m
  rw [show trimL p (trimL p ms) = ((trimL p ms).map (trimM p)).filter (fun m => decide (0 < m.pr.length)) from rfl, h]
  rw [List.filter_eq_self]
  intro m' hm
  obtain ⟨_, _, _, h0⟩ := mem_trimL hm
  simpa using h0

theorem vld_of_good {ms : List Md} (h1 : largeB ms = false) (h2 : ∀ m ∈ ms, rightB m = true) (h3 : ∀ m ∈ ms, misfit m = false) (h4 : (namesOf ms).Nodup) (h5 : (procsOf ms).Nodup) : vld ms = 0 := by
  have e2 : ms.any (fun m => !rightB m) = false := by rw [List.any_eq_false]; intro m hm; simp [h2 m hm]
  have e3 : ms.any misfit = false := by rw [List.any_eq_false]; intro m hm; simp [h3 m hm]
  unfold vld
  rw [h1, e2, e3]
  simp [h4, h5]
theorem pcOf_mem {ms : List Md} (hg : Good ms) {m : Md} (hm : m ∈ ms) {q : Pc} (hq : q ∈ prM m) : q.nm ∈ m.pr ∧ q.sz ∈ m.sz ∧ q.cl ∈ m.cl := by
  obtain ⟨i, hi, rfl⟩ := prM_at hq
  obtain ⟨f1, f2⟩ := hg.fit hm
  have i2 : i < m.sz.length := by omega
  have i3 : i < m.cl.length := by omega
  have e1 : (pcOf m i).nm = m.pr[i] := getD_some (List.getElem?_eq_getElem hi)
  have e2 : (pcOf m i).sz = m.sz[i] := getD_some (List.getElem?_eq_getElem i2)
  have e3 : (pcOf m i).cl = m.cl[i] := getD_some (List.getElem?_eq_getElem i3)
  rw [e1, e2, e3]
  exact ⟨List.getElem_mem hi, List.getElem_mem i2, List.getElem_mem i3⟩
theorem vld_trim (p : Str → Bool) {ms : List Md} (hg : Good ms) : vld (trimL p ms) = 0 := by
  have hsub : ∀ m, ∀ q ∈ (prM m).filter (fun q => p q.nm), q ∈ prM m := fun m q hq => (List.mem_filter.1 hq).1
  refine vld_of_good ?_ ?_ ?_ ?_ ?_
  · unfold largeB
    have a1 : (trimL p ms).any longC = false := by
      rw [List.any_eq_false]
      intro m' hm'
      obtain ⟨m, hm, rfl, _⟩ := mem_trimL hm'
      unfold longC
      rw [Bool.not_eq_true, List.any_eq_false]
      intro l hl
      obtain ⟨q, hq, rfl⟩ := List.mem_map.1 hl
      have := hg.calls m hm _ (pcOf_mem hg hm (hsub m q hq)).2.2
      simp; omega
    have a2 : (trimL p ms).length ≤ 32 := Nat.le_trans (List.length_filter_le ..) (by rw [List.length_map]; exact hg.len)
    have a3 : sumL (trimL p ms) ≤ 100 := by
      rw [← prs_length, prs_trim]
      exact Nat.le_trans (List.length_filter_le ..) hg.plen
    rw [a1, decide_eq_false (by omega), decide_eq_false (by omega)]
    rfl
  · intro m' hm'
    obtain ⟨m, hm, rfl, _⟩ := mem_trimL hm'
    have hr := hg.right m hm
    unfold rightB at hr ⊢
    simp only [Bool.and_eq_true, decide_eq_true_eq, Bool.not_eq_true', List.any_eq_false] at hr ⊢
    obtain ⟨r1, r2, r3, r4, r5, r6⟩ := hr
    refine ⟨fun l hl => ?_, r2, r3, r4, fun s hs => ?_, fun z hz => ?_⟩
    · obtain ⟨q, hq, rfl⟩ := List.mem_map.1 hl
      exact r1 _ (pcOf_mem hg hm (hsub m q hq)).2.2
    · obtain ⟨q, hq, rfl⟩ := List.mem_map.1 hs
      exact r5 _ (pcOf_mem hg hm (hsub m q hq)).1
    · obtain ⟨q, hq, rfl⟩ := List.mem_map.1 hz
      exact r6 _ (pcOf_mem hg hm (hsub m q hq)).2.1
  · intro m' hm'
    obtain ⟨m, hm, rfl, _⟩ := mem_trimL hm'
    simp [misfit, trimM]
  · have : (namesOf (trimL p ms)).Sublist (namesOf ms) := by
      unfold namesOf trimL
      have h1 := (List.filter_sublist (p := fun m => decide (0 < m.pr.length)) (l := ms.map (trimM p))).map (·.nm)
      rw [List.map_map] at h1
      exact h1
    exact this.nodup hg.names
  · rw [← prs_nm, prs_trim]
    exact ((List.filter_sublist (p := fun q : Pc => p q.nm) (l := prs ms)).map (·.nm)).nodup hg.nms

section
variable {ms : List Md} {x : Str}
theorem opn_trim (h0 : opn ms = 0) : opn (trimL (rchB (prs ms) x) ms) = 0 := by
  have hg := opn_good h0
  unfold opn
  rw [if_neg (by rw [vld_trim _ hg]; simp), if_neg]
  have : missS (prs (trimL (rchB (prs ms) x) ms)) = [] := by
    apply List.eq_nil_iff_forall_not_mem.2
    intro s hs
    obtain ⟨⟨p, hp, hsp⟩, hn⟩ := mem_missL.1 (mem_setS.1 hs)
    rw [prs_trim] at hp hn
    obtain ⟨hp1, hp2⟩ := List.mem_filter.1 hp
    obtain ⟨i, hi⟩ := List.mem_iff_getElem?.1 hp1
    have hf := (fnd_at hg.nms hi).1
    have hr : Rch (prs ms) x s := .call (rchB_iff.1 hp2) (by rw [clOf_fnd hf]; exact hsp)
    rw [fnd_filter, if_pos (rchB_iff.2 hr)] at hn
    obtain ⟨q, hq⟩ := opn_all h0 p hp1 s hsp
    rw [hq] at hn
    cases hn
  rw [this]
  simp
theorem opf_trim (h : opf ms x = 0) : opf (trimL (rchB (prs ms) x) ms) x = 0 := by
  have h0 : opn ms = 0 := by
    by_cases h1 : opn ms = 0
    · exact h1
    · rw [opf, if_pos h1] at h; exact h
  have hf : fnd x (prs ms) ≠ none := by
    intro e
    rw [opf, if_neg (by simp [h0]), if_pos e] at h
    cases h
  unfold opf
  rw [if_neg (by rw [opn_trim h0]; simp), if_neg]
  rw [prs_trim, fnd_filter, if_pos (rchB_iff.2 .here)]
  exact hf
theorem trm_trim (h : opf ms x = 0) : trm (trimL (rchB (prs ms) x) ms) x = (trimL (rchB (prs ms) x) ms, 0) := by
  unfold trm
  rw [if_neg (by rw [opf_trim h]; simp), prs_trim, rchB_filter, trimL_twice]
theorem rea_trim (h : opf ms x = 0) : rea (trimL (rchB (prs ms) x) ms) x = rea ms x := by
  unfold rea
  rw [if_neg (by rw [opf_trim h]; simp), if_neg (by simp [h]), prs_trim]
  unfold rchL
  rw [rchB_filter]
  congr 2
  rw [show ((prs ms).filter (fun q => rchB (prs ms) x q.nm)).map (·.nm) = ((prs ms).map (·.nm)).filter (rchB (prs ms) x) from by rw [List.filter_map]; rfl, List.filter_filter]
  simp
theorem lRun_trim (ps : List Pc) (x : Str) : ∀ (walk : List Str) (top : Str) (rest : List Str) (r : Int × Int), rchB ps x top = true → (∀ s ∈ rest, rchB ps x s = true) →
    lRun (ps.filter (fun q => rchB ps x q.nm)) top rest r walk = lRun ps top rest r walk
  | [], _, _, _, _, _ => rfl
  | s :: w, top, rest, r, ht, hr => by
    have hstep : lStep (ps.filter (fun q => rchB ps x q.nm)) top rest s = lStep ps top rest s := by
      unfold lStep
      rw [clOf_filter, if_pos ht]
    unfold lRun
    rw [hstep]
    cases hs : lStep ps top rest s with
    | none => rfl
    | some tl =>
      obtain ⟨t, l⟩ := tl
      have hk : rchB ps x t = true ∧ ∀ s ∈ l, rchB ps x s = true := by
        unfold lStep at hs
        split at hs
        · cases rest with
          | nil => cases hs
          | cons a b =>
            injection hs with hs
            injection hs with e1 e2
            subst e1 e2
            exact ⟨hr _ (by simp), fun s h => hr s (by simp [h])⟩
        · split at hs
          · rename_i hc
            injection hs with hs
            injection hs with e1 e2
            subst e1 e2
            exact ⟨rchB_iff.2 (.call (rchB_iff.1 ht) hc), fun s h => by
              rcases List.mem_cons.1 h with rfl | h
              · exact ht
              · exact hr s h⟩
          · cases hs
      show lRun _ t l _ w = lRun _ t l _ w
      rw [ovOf_filter ps hk.1]
      exact lRun_trim ps x w t l _ hk.1 hk.2
theorem lds_trim (h : opf ms x = 0) (walk : List Str) : lds (trimL (rchB (prs ms) x) ms) x walk = lds ms x walk := by
  unfold lds
  rw [opf_trim h, h, prs_trim]
  simp only [ne_eq, not_true_eq_false, if_false]
  unfold ldsR
  rw [ovOf_filter _ (rchB_iff.2 .here), lRun_trim _ _ _ _ _ _ (rchB_iff.2 .here) (by simp)]
end
end Go.Proofs.Ytchhjldopecliaa
namespace Go.Proofs.Ytchhjldopecliaa
open Go.RowKit

set_option maxRecDepth 100000 in
set_option maxHeartbeats 4000000 in
theorem c_LinkTrims (A : Option Addr) (n c : Nat) (ms : List Md) (x : Str) (A2 : Option Addr) (n2 c2 : Nat) (walk : List Str) (w : World) (h : SlR w 5 RMd A n c ms) (h2 : SlR w 1 RStr A2 n2 c2 walk) (hx : x.size ≤ LIM) :
    Calls Try.prog 11 #[.slice A n c, .string x, .slice A2 n2 c2] w fun e w' => e = .returned (.bool true) ∧ Below w.heap.size w w' := by
  have hlim := h.lim
  have hlim2 := h2.lim
  have H := Box.mk h
  have H2 := Box.mk h2
  clear h h2
  rw [LIM_eq] at hx
  go_enter Try.func11, Try.ntmps11
  go_wp2_with fail
  refine (c_over A n c ms w H.out).mono ?_
  rintro e w1 ⟨⟨q, rfl, hq⟩, hb1⟩
  have HB1 := Box.mk hb1
  clear hb1 hq
  cases q
  case true =>
    go_wp2_with fail
    refine (c_known w1).mono ?_
    rintro e w2 ⟨rfl, hb2⟩
    have HB2 := Box.mk (below_tr HB1.out HB1.out.size hb2)
    clear hb2
    go_wp2_with fail
    go_ret
    exact ⟨rfl, HB2.out⟩
  case false =>
  by_cases hxm : ((x.size : Nat) : Int) ≤ 65536
  case neg =>
    go_wp2_with fail
    refine (c_known w1).mono ?_
    rintro e w2 ⟨rfl, hb2⟩
    have HB2 := Box.mk (below_tr HB1.out HB1.out.size hb2)
    clear hb2
    go_wp2_with fail
    go_ret
    exact ⟨rfl, HB2.out⟩
  case pos =>
  go_wp2_with fail
  refine (c_heavyTexts A2 n2 c2 walk w1 (H2.out.below mono_str HB1.out)).mono ?_
  rintro e _ ⟨rfl, rfl⟩
  generalize hvyK n2 walk = hv
  by_cases hvm : hv ≤ 65536
  case neg =>
    go_wp2_with fail
    refine (c_known w1).mono ?_
    rintro e w2 ⟨rfl, hb2⟩
    have HB2 := Box.mk (below_tr HB1.out HB1.out.size hb2)
    clear hb2
    go_wp2_with fail
    go_ret
    exact ⟨rfl, HB2.out⟩
  case pos =>
  go_wp2_with fail
  refine (c_Trim A n c ms x w1 (H.out.below mono_md HB1.out)).mono ?_
  rintro e w2 ⟨B, d, rfl, hs, hb⟩
  have HB2 := Box.mk (below_tr HB1.out HB1.out.size hb)
  have HS2 := Box.mk hs
  clear hb hs
  by_cases h0 : opf ms x = 0
  case neg =>
    have hE : ((trm ms x).2 != 0) = true := by simp [trm, h0]
    clear h0
    generalize (trm ms x).2 = E at *
    generalize (trm ms x).1.length = nt at *
    go_wp2_with fail
    refine (c_known w2).mono ?_
    rintro e w3 ⟨rfl, hb3⟩
    have HB3 := Box.mk (below_tr HB2.out HB2.out.size hb3)
    clear hb3
    go_wp2_with fail
    go_ret
    exact ⟨rfl, HB3.out⟩
  case pos =>
  have hT : trm ms x = (trimL (rchB (prs ms) x) ms, 0) := by simp [trm, h0]
  have L1 := rea_trim h0
  have L2 := Box.mk (trm_trim h0)
  have L3 := lds_trim h0 walk
  have L4 : (rea ms x).2 = 0 := by simp [rea, h0]
  rw [hT] at HS2 ⊢
  dsimp only at HS2 ⊢
  clear hT h0
  generalize trimL (rchB (prs ms) x) ms = ts at *
  obtain ⟨nt, hnt⟩ : ∃ nt, nt = ts.length := ⟨_, rfl⟩
  rw [← hnt] at HS2 ⊢
  have HNT := Box.mk hnt
  have C1 := Box.mk (fun w (h : Below w2.heap.size w2 w) => c_Reach A n c ms x w (H.out.below mono_md (below_tr HB2.out HB2.out.size h)))
  have C2 := Box.mk (fun w (h : Below w2.heap.size w2 w) => c_Reach B nt d ts x w (HS2.out.below mono_md h))
  have C3 := Box.mk (fun w (h : Below w2.heap.size w2 w) => c_Loads A n c ms x A2 n2 c2 walk w (H.out.below mono_md (below_tr HB2.out HB2.out.size h)) (H2.out.below mono_str (below_tr HB2.out HB2.out.size h)))
  have C4 := Box.mk (fun w (h : Below w2.heap.size w2 w) => c_Loads B nt d ts x A2 n2 c2 walk w (HS2.out.below mono_md h) (H2.out.below mono_str (below_tr HB2.out HB2.out.size h)))
  have C5 := Box.mk (fun w (h : Below w2.heap.size w2 w) => c_Trim B nt d ts x w (HS2.out.below mono_md h))
  rw [L1] at C2
  rw [L3] at C4
  rw [L2.out] at C5
  dsimp only at C5
  rw [← hnt] at C5
  rw [L4] at C1 C2
  clear hnt L1 L2 L3 L4
  obtain ⟨nr, hnr⟩ : ∃ nr, nr = (rea ms x).1.length := ⟨_, rfl⟩
  rw [← hnr] at C1 C2
  clear hnr
  generalize (rea ms x).1 = rs at *
  generalize (lds ms x walk).1 = E1 at *
  generalize (lds ms x walk).2 = E2 at *
  go_wp2_with fail
  refine (C1.out w2 (Below.refl _ _)).mono ?_
  rintro e w3 ⟨B1, d1, rfl, hs3, hb3⟩
  have HB3 := Box.mk hb3
  have HS3 := Box.mk hs3
  clear hb3 hs3
  go_wp2_with fail
  refine (C2.out w3 HB3.out).mono ?_
  rintro e w4 ⟨B2, d2, rfl, hs4, hb4⟩
  have HB4 := Box.mk (below_tr HB3.out HB3.out.size hb4)
  have HS4 := Box.mk hs4
  have HS3' := Box.mk (HS3.out.below mono_str hb4)
  clear hb4 hs4 HS3
  go_wp2_with fail
  refine (C3.out w4 HB4.out).mono ?_
  rintro e w5 ⟨rfl, hb5⟩
  have HB5 := Box.mk (below_tr HB4.out HB4.out.size hb5)
  have HT3 := Box.mk (HS3'.out.below mono_str hb5)
  have HT4 := Box.mk (HS4.out.below mono_str hb5)
  clear hb5 HS3' HS4
  go_wp2_with fail
  refine (C4.out w5 HB5.out).mono ?_
  rintro e w6 ⟨rfl, hb6⟩
  have HB6 := Box.mk (below_tr HB5.out HB5.out.size hb6)
  have HU3 := Box.mk (HT3.out.below mono_str hb6)
  have HU4 := Box.mk (HT4.out.below mono_str hb6)
  clear hb6 HT3 HT4
  go_wp2_with fail
  refine (C5.out w6 HB6.out).mono ?_
  rintro e w7 ⟨B5, d5, rfl, hs7, hb7⟩
  have HB7 := Box.mk (below_tr HB6.out HB6.out.size hb7)
  have HS7 := Box.mk hs7
  have HV3 := Box.mk (HU3.out.below mono_str hb7)
  have HV4 := Box.mk (HU4.out.below mono_str hb7)
  clear hb7 hs7 HU3 HU4 C1 C2 C3 C4 C5
  go_wp2_with fail
  refine (c_SameTexts B1 nr d1 B2 d2 rs w7 HV3.out HV4.out).mono ?_
  rintro e w8 ⟨rfl, hb8⟩
  have HB8 := Box.mk (below_tr HB7.out HB7.out.size hb8)
  have HS8 := Box.mk (HS7.out.below mono_md hb8)
  clear hb8 HV3 HV4
  go_wp2_with fail
  refine (c_Same B5 nt d5 ts B nt d ts w8 HS8.out (HS2.out.below mono_md HB8.out)).mono ?_
  rintro e w9 ⟨rfl, hb9⟩
  have HB9 := Box.mk (below_tr HB8.out HB8.out.size hb9)
  clear hb9
  rw [eqMds_iff.2 (rfl : ts = ts)]
  go_wp2_with fail
  refine (c_known w9).mono ?_
  rintro e w10 ⟨rfl, hb10⟩
  have HB10 := Box.mk (below_tr HB2.out HB2.out.size (below_tr HB9.out HB9.out.size hb10))
  clear hb10
  go_wp2_with fail
  go_ret
  exact ⟨rfl, HB10.out⟩
end Go.Proofs.Ytchhjldopecliaa
