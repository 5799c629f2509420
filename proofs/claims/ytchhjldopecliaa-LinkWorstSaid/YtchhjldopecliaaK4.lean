/-
What maps.Keys of sets of texts, and of the map of procedures, does. Condition: the map lies there.
What reach computes: a set that holds just what is reached. Condition: the map of procedures lies there, and whatever is called is there.
What Reach computes. Condition: the argument is a slice of modules.
What the reference's reach computes. Condition: procedures whose names differ and whose calls are there.
What the reference's Reach computes. Condition: the argument is a slice of modules.
Slices that are read in some blocks only, and rows of one's own whose elements are so read: they stay when other blocks turn. No conditions.
What slices.Clone computes at texts, at numbers and at slices of texts. Condition: a slice of at most a million elements.
What cloned computes: the module, in new memory. Condition: a module of slices of at most a million elements.
What Move computes. Condition: the argument is a slice of modules.
What the reference's Move computes. Condition: the argument is a slice of modules.
What slices.Equal (of texts, of numbers), the reference's sameTexts and slices.EqualFunc (of slices of texts) compute. Condition: slices of such.
What Same computes. Condition: slices of modules.
What the reference's Same computes. Condition: slices of modules.
That LinkMoves returns true. Condition: the arguments are a slice of modules, a text and a number.
-/
import Derived.Test.YtchhjldopecliaaK3
import Derived.Deep.OwnRows
import Derived.Laws.OwnMore
import Derived.Deep.RegionHeld3
namespace Go.Proofs.Ytchhjldopecliaa
open Go.RowKit Go.Shelf

attribute [local go_sem] Oper.semAt_some

theorem sortB_perm_eq {a b : List By} (h : a.Perm b) : sortB a = sortB b := by
  refine List.Perm.eq_of_pairwise (le := fun x y : By => x ≤ y) (fun x y _ _ h1 h2 => List.le_antisymm h1 h2) (sortB_sorted a) (sortB_sorted b) (((sortB_perm a).trans h).trans (sortB_perm b).symm)
theorem srtS_perm {a b : List Str} (h : a.Perm b) : srtS a = srtS b := by
  unfold srtS
  rw [sortB_perm_eq (h.map bs)]
theorem bs_nodup {l : List Str} (h : l.Nodup) : (l.map bs).Nodup := by
  rw [List.Nodup, List.pairwise_map]
  exact List.Pairwise.imp (fun hab e => hab (bs_inj e)) h
theorem srtS_nodup {l : List Str} (h : l.Nodup) : srtS l = setS l := by
  apply map_bs_inj
  refine sorted_ext ?_ (setS_sorted l) fun x => ?_
  · rw [bs_srtS]
    have h1 := sortB_sorted (l.map bs)
    have h2 : (sortB (l.map bs)).Nodup := (sortB_perm _).nodup_iff.2 (bs_nodup h)
    exact List.Pairwise.imp (fun (h : _ ∧ _) => lt_of_le_ne h.1 h.2) (List.pairwise_and_iff.2 ⟨h1, h2⟩)
  · rw [← bs_ob x, mem_map_bs, mem_map_bs, mem_setS, mem_srtS]

/-- How many entries are still to come. -/
def leftN (w : World) (b r : Nat) : Nat := match w.heap[b]?, w.heap[r]? with
  | some (.map es _), some (.mapIter _ _ seen _) => (leftOf es seen).toList.length
  | _, _ => 0
section
variable {κ : Type} {enc : κ → Value} {w : World} {b r : Nat} {left kvs : List (κ × Value)}
theorem RangeK.leftN (h : RangeK enc w b r left kvs) : leftN w b r = left.length := by
  obtain ⟨es, clock, seen, hb, hE, hr, hl, _⟩ := h
  unfold Go.Proofs.Ytchhjldopecliaa.leftN
  rw [hb, hr]
  have := congrArg List.length hl
  simpa using this
theorem RangeK.walks {w' : World} (h : RangeK enc w b r left kvs) (hk : KeepsWalks w w') : RangeK enc w' b r left kvs := by
  obtain ⟨es, clock, seen, hb, hE, hr, hl⟩ := h
  exact ⟨es, clock, seen, hk.same b _ hb rfl, hE, hk.same r _ hr rfl, hl⟩
theorem RangeK.walk (h : RangeK enc w b r left kvs) : ∃ o : Obj, w.heap[r]? = some o ∧ o.isWalk = true := by
  obtain ⟨es, clock, seen, hb, hE, hr, hl⟩ := h
  exact ⟨_, hr, rfl⟩
end

set_option maxRecDepth 100000 in
set_option maxHeartbeats 2000000 in
theorem i_keysB (n : Nat) (hn : 1 ≤ n) (n₀ Bs b : Nat) (kvs : List (Str × Value)) (w : World) (hBs : Bs < w.heap.size) (hn₀ : w.heap.size = n₀) (hc : w.cell? ⟨Bs, 0, none⟩ = some (.map (some b))) (h : MapK (fun s : Str => Value.string s) w b kvs) (W0 : World) (hW0 : Below n₀ w W0) :
    SeqStopsK Fence.wide n Try.prog 101 #[.pointer (some ⟨Bs, 0, none⟩)] (fun x : Str => #[Value.string x]) (Kp n₀) (fun ys => ys.Perm (kvs.map (·.1))) (fun _ => True) kvs.length W0 := by
  subst hn₀
  intro l J Jx W hW hJ hJx hY h0
  have hb0 : Below w.heap.size w W := hW0.trans (hW.mono hW0.size)
  have d0 := cellk hb0 hBs hc
  obtain ⟨w1, hr1, hR1, hb1, hsw1⟩ := MapK.range (P := Try.prog) (h.below hb0) Try.underlying82
  have hJ1 : J [] w1 := hJ [] W w1 none h0 (below_gb hb1 none) (fun r e => by cases e)
  have HB1 := Box.mk (hb0.trans (hb1.mono hb0.size))
  have HR1 := Box.mk hR1
  have HY := Box.mk hY
  have HJA := Box.mk hJ
  have HJ1 := Box.mk hJ1
  have HWS := Box.mk hb0.size
  clear hb0 hW hY hc h hJ hJx hBs hW0 hR1 hb1 hsw1 hJ1 h0
  refine callsIn_of_wp Try.func101 rfl trivial ?_ rfl
  simp only [Try.ntmps101, List.size_toArray, List.length_cons, List.length_nil, Nat.reduceAdd, Nat.reduceSub, Array.replicate_succ, Array.replicate_zero, List.push_toArray, List.append_toArray, List.nil_append, List.cons_append]
  gi_wp2
  clear hr1
  gi_loopw [3] (fun _ wr => ∃ pre left, (pre ++ left.map (·.1)).Perm (kvs.map (·.1)) ∧ Box (RangeK encS wr b W.heap.size left kvs) ∧ Box (J pre wr) ∧ Box (Below w.heap.size w wr)) (fun _ wr => leftN wr b W.heap.size)
  case atStart => exact ⟨[], kvs, List.Perm.refl _, HR1, HJ1, HB1⟩
  case round =>
    obtain ⟨pre, left, hperm, HR, HJ, HB⟩ := hrel
    have HP := Box.mk hperm
    clear hperm HR1 HJ1 HB1
    rcases RangeK.next (P := Try.prog) HR.out 0 with ⟨rfl, hr⟩ | ⟨l1, x, v, l2, w2, rfl, hr, hr', hR2, hg2, hs2⟩
    · gi_wp2
      go_end0
      exact ⟨⟨_, rfl⟩, .inl ⟨pre, by simpa using HP.out, HJ.out⟩⟩
    · have hJ2 : J pre w2 := HJA.out pre _ w2 _ HJ.out hg2 (fun r e => by injection e with e; subst e; exact ⟨Nat.le_refl _, HR.out.walk⟩)
      have hB2 : Below w.heap.size w w2 := HB.out.grown hg2 HB.out.size (fun q e => by injection e with e; subst e; exact HWS.out)
      have hlen : pre.length < kvs.length := by
        have := HP.out.length_eq
        simp at this
        omega
      obtain ⟨fn, tmps, assign, body, hy, hRy⟩ := HY.out pre x w2 hJ2 hlen
      have HR2 := Box.mk hR2
      have HB2 := Box.mk hB2
      have HN : Box (leftN wr b W.heap.size = (l1 ++ (x, v) :: l2).length) := ⟨HR.out.leftN⟩
      clear hJ2 hB2 hlen hR2 hg2 hs2 HR
      gi_wp2
      clear hr hr'
      refine hRy.mono ?_
      rintro e W3 (⟨rfl, hJ3, hk3⟩ | ⟨rfl, hJx3⟩)
      · have HR3 := Box.mk (HR2.out.walks hk3.2)
        gi_wp2
        go_roundw
        case rel => exact ⟨pre ++ [x], l1 ++ l2, (by
          refine List.Perm.trans ?_ HP.out
          simp only [List.map_append, List.map_cons, List.append_assoc, List.singleton_append]
          exact List.Perm.append_left _ (List.perm_middle).symm), HR3, ⟨hJ3⟩, ⟨HB2.out.trans hk3.1⟩⟩
        case measure => rw [HN.out, HR3.out.leftN]; simp
      · gi_wp2
        refine bodyPost_ret (results_none rfl _ _ _) rfl ?_
        exact ⟨⟨_, rfl⟩, .inr ⟨_, trivial, hJx3⟩⟩

theorem c_KeysB (b : Option Nat) (w : World) :
    Calls Try.prog 65 #[.map b] w fun e w' => e = .returned (.func (.func 101) #[] #[.pointer (some ⟨w.heap.size, 0, none⟩)]) ∧ w.alloc (.cells #[.map b] 82) = w' := by
  go_enter Try.func65, Try.ntmps65
  go_wp2_with fail
  go_ret
  exact ⟨rfl, rfl⟩
theorem ent_keysB : ∀ args w, (callFunc 101 args).run Try.prog w = .ok (.enter 101 args) w := enters_of Try.func101 (by kernel_rfl) rfl
/-- slices.Sorted(maps.Keys(m)). -/
theorem c_SortedKeysB (b : Nat) (kvs : List (Str × Value)) (w w1 : World) (h : MapK encS w b kvs) (hw : w.alloc (.cells #[.map (some b)] 82) = w1) (hn : kvs.length ≤ 1000000) :
    Calls Try.prog 64 #[.func (.func 101) #[] #[.pointer (some ⟨w.heap.size, 0, none⟩)]] w1 fun e w' => ∃ v, e = .returned v ∧ w'.ownsRow w1.heap.size 9 1 v (srtS (kvs.map (·.1))).length ((srtS (kvs.map (·.1))).map Value.string) ∧ Below w1.heap.size w1 w' := by
  have hB : Below w.heap.size w w1 := hw ▸ bel_alloc _ _
  have hlt : w.heap.size < w1.heap.size := by rw [← hw]; simp
  have hc : w1.cell? ⟨w.heap.size, 0, none⟩ = some (.map (some b)) := by rw [← hw]; simp
  refine (c_Sorted 101 #[.pointer (some ⟨w.heap.size, 0, none⟩)] ent_keysB (fun ys => ys.Perm (kvs.map (·.1))) (fun _ => True) kvs.length (by omega) (fun xs hx => by have := hx.length_eq; simp at this; omega) w1
    (fun W hW => i_keysB 3 (by decide) w1.heap.size w.heap.size b kvs w1 hlt rfl hc (h.below hB) W hW)).mono ?_
  rintro e w' ⟨v, xs, rfl, hp, ho, hb⟩
  rw [srtS_perm hp] at ho
  exact ⟨v, rfl, ho, hb⟩
end Go.Proofs.Ytchhjldopecliaa
namespace Go.Proofs.Ytchhjldopecliaa
open Go.RowKit

/-- How many names are not yet found. -/
def cntN (ps : List Pc) (S : List Str) : Nat := ((ps.map (·.nm)).filter (fun y => decide (y ∉ S))).length
theorem filter_lt {α : Type} {p q : α → Bool} : ∀ {l : List α}, (∀ x ∈ l, q x = true → p x = true) → ∀ {x}, x ∈ l → p x = true → q x = false → (l.filter q).length < (l.filter p).length
  | [], _, _, h, _, _ => by cases h
  | y :: r, hpq, x, hx, hp, hq => by
    have hr : (r.filter q).length ≤ (r.filter p).length := by
      have : ∀ l : List α, (∀ x ∈ l, q x = true → p x = true) → (l.filter q).length ≤ (l.filter p).length := by
        intro l
        induction l with
        | nil => intro _; simp
        | cons z t ih =>
          intro h
          have h1 := ih (fun x hx => h x (List.mem_cons_of_mem _ hx))
          have h2 := h z (List.mem_cons_self ..)
          by_cases hz : q z = true
          · simp [hz, h2 hz]; omega
          · by_cases hz2 : p z = true
            · simp [hz, hz2]; omega
            · simp [hz, hz2]; omega
      exact this r (fun x hx => hpq x (List.mem_cons_of_mem _ hx))
    rcases List.mem_cons.1 hx with rfl | hx
    · simp [hp, hq]; omega
    · have ih := filter_lt (l := r) (fun z hz => hpq z (List.mem_cons_of_mem _ hz)) hx hp hq
      by_cases hz : q y = true
      · simp [hz, hpq y (List.mem_cons_self ..) hz]; omega
      · by_cases hz2 : p y = true
        · simp [hz, hz2]; omega
        · simp [hz, hz2]; omega
theorem cntN_lt {ps : List Pc} {S S' : List Str} {s : Str} (hs : s ∈ ps.map (·.nm)) (h0 : s ∉ S) (h1 : s ∈ S') (hsub : ∀ y ∈ S, y ∈ S') : cntN ps S' < cntN ps S :=
  filter_lt (fun x _ hx => by simp only [decide_eq_true_eq] at hx ⊢; exact fun h => hx (hsub x h)) hs (by simpa using h0) (by simpa using h1)

/-- What the search has found when it has gone through some of the calls. -/
structure FoundJ (ps : List Pc) (s : Str) (S Sj : List Str) (done : List Str) : Prop where
  old : ∀ y ∈ S, y ∈ Sj
  here : s ∈ Sj
  new : ∀ y ∈ Sj, y ∈ S ∨ Rch ps s y
  full : ∀ y ∈ Sj, y ∈ S ∨ y = s ∨ ∀ z ∈ clOf ps y, z ∈ Sj
  did : ∀ z ∈ done, z ∈ Sj
  nodup : Sj.Nodup
  there : ∀ y ∈ Sj, ∃ q, fnd y ps = some q
theorem FoundJ.step {ps : List Pc} {s z : Str} {S Sj Sk done : List Str} (h : FoundJ ps s S Sj done) (hz : z ∈ clOf ps s) (k : Found ps z Sj Sk) : FoundJ ps s S Sk (done ++ [z]) := by
  refine ⟨fun y hy => k.old y (h.old y hy), k.old s h.here, fun y hy => ?_, fun y hy => ?_, fun y hy => ?_, k.nodup, k.there⟩
  · rcases k.new y hy with h1 | h1
    · exact h.new y h1
    · exact .inr (Rch.first hz h1)
  · rcases k.full y hy with h1 | h1
    · rcases h.full y h1 with h2 | h2 | h2
      · exact .inl h2
      · exact .inr (.inl h2)
      · exact .inr (.inr fun u hu => k.old u (h2 u hu))
    · exact .inr (.inr h1)
  · rcases List.mem_append.1 hy with hy | hy
    · exact k.old y (h.did y hy)
    · obtain rfl : y = z := by simpa using hy
      exact k.here
theorem FoundJ.all {ps : List Pc} {s : Str} {S Sj : List Str} (h : FoundJ ps s S Sj (clOf ps s)) : Found ps s S Sj :=
  ⟨h.old, h.here, h.new, fun y hy => by
    rcases h.full y hy with h1 | h1 | h1
    · exact .inl h1
    · subst h1; exact .inr h.did
    · exact .inr h1, h.nodup, h.there⟩

abbrev ptr (b : Nat) : Value := .pointer (some ⟨b, 0, none⟩)
/-- What the walk of the calls finds in memory. -/
structure RcE (w0 w : World) (bo ba bw b bp : Nat) : Prop where
  c1 : w.cell? ⟨bo, 0, none⟩ = some (.map (some b))
  c2 : w.cell? ⟨ba, 0, none⟩ = some (.map (some bp))
  c3 : w.cell? ⟨bw, 0, none⟩ = some (.func (.func 102) #[] #[ptr bo, ptr ba, ptr bw])
  bel : Below w0.heap.size w0 w
  lo : w0.heap.size ≤ b
  n1 : bo ≠ b
  n2 : ba ≠ b
  n3 : bw ≠ b
theorem RcE.grown {w0 w w' : World} {bo ba bw b bp : Nat} (h : RcE w0 w bo ba bw b bp) (hg : w.grownBy w' (some b)) : RcE w0 w' bo ba bw b bp :=
  ⟨hg.cell h.c1 (fun e => h.n1 (by injection e)), hg.cell h.c2 (fun e => h.n2 (by injection e)), hg.cell h.c3 (fun e => h.n3 (by injection e)), h.bel.grown hg h.bel.size (fun q hq => by injection hq with hq; have := h.lo; omega), h.lo, h.n1, h.n2, h.n3⟩

/-- What one call finds. -/
def Finds (ps : List Pc) (s : Str) (S : List Str) (b : Nat) (w : World) (e : Ending) (w' : World) : Prop := e = .returned (.tuple #[]) ∧ ∃ S', Found ps s S S' ∧ MapS w' b S' ∧ w.grownBy w' (some b)

set_option maxRecDepth 100000 in
set_option maxHeartbeats 4000000 in
theorem c_reach1 (ps : List Pc) (w0 : World) (bo ba bw b bp : Nat) (hm : MapP w0 bp ps) (hT : AllThere ps) (hc : ∀ p ∈ ps, p.cl.length ≤ 100) : ∀ (m : Nat) (w : World) (S : List Str) (s : Str), cntN ps S < m → RcE w0 w bo ba bw b bp → MapS w b S → S.Nodup → (∀ y ∈ S, ∃ q, fnd y ps = some q) → (∃ p, fnd s ps = some p) →
    Calls Try.prog 102 #[.string s, ptr bo, ptr ba, ptr bw] w (Finds ps s S b w) := by
  intro m
  induction m with
  | zero => intro w S s h; omega
  | succ m ih =>
    intro w S s hcnt hE hS hnd hth hs
    have IH := Box.mk ih
    have HMP := Box.mk hm
    have HT := Box.mk hT
    have HC := Box.mk hc
    have HCN := Box.mk hcnt
    have HE := Box.mk hE
    have HS := Box.mk hS
    have HND := Box.mk hnd
    have HTH := Box.mk hth
    obtain ⟨p, hp⟩ := hs
    have HP := Box.mk hp
    have hlk := hS.look s
    obtain ⟨c1, c2, c3, _, _, _, _, _⟩ := hE
    clear ih hm hT hc hcnt hS hnd hth hp
    by_cases hin : s ∈ S
    · rw [decide_eq_true hin] at hlk
      have HF : Box (Found ps s S S) := ⟨⟨fun _ h => h, hin, fun _ h => .inl h, fun _ h => .inl h, HND.out, HTH.out⟩⟩
      clear hin
      go_enter Try.func102, Try.ntmps102
      go_wp2_with fail
      refine bodyPost_ret (results_none rfl _ _ _) rfl ?_
      exact ⟨rfl, S, HF.out, HS.out, World.grownBy.refl _ _⟩
    · rw [decide_eq_false hin] at hlk
      obtain ⟨w1, hup, hS1, hg1, _⟩ := HS.out.add s hin
      have HIN := Box.mk hin
      have HE1 := Box.mk (HE.out.grown hg1)
      have HS1 := Box.mk hS1
      have HG1 := Box.mk hg1
      obtain ⟨kvs, hk, hpv⟩ := HMP.out
      obtain ⟨v, hv, A7, n7, c7, rfl, hq⟩ := hpv.get_some HP.out
      have hlk2 := ((hk.below HE1.out.bel).look keyS Try.underlying57 (zero_proc w1) hv).1
      have hfd := field64_1 p.ov A7 n7 c7
      have e1 := HE1.out.c1
      have e2 := HE1.out.c2
      have e3 := HE1.out.c3
      have HQ := Box.mk hq
      have hn7 : n7 ≤ 100 := by have := HC.out p (fnd_some HP.out).1; rw [hq.len] at this; exact this
      clear hin hS1 hg1 hk hpv hv hq
      go_enter Try.func102, Try.ntmps102
      go_wp2_with fail
      have HJ0 : Box (FoundJ ps s S (S ++ [s]) []) := ⟨⟨fun y hy => List.mem_append.2 (.inl hy), by simp, fun y hy => ?_, fun y hy => ?_, by simp, nodup_snoc HND.out HIN.out, fun y hy => ?_⟩⟩
      rotate_left
      · rcases List.mem_append.1 hy with hy | hy
        · exact .inl hy
        · obtain rfl : y = s := by simpa using hy
          exact .inr .here
      · rcases List.mem_append.1 hy with hy | hy
        · exact .inl hy
        · exact .inr (.inl (by simpa using hy))
      · rcases List.mem_append.1 hy with hy | hy
        · exact HTH.out y hy
        · obtain rfl : y = s := by simpa using hy
          exact ⟨p, HP.out⟩
      have HCL : Box (clOf ps s = p.cl) := ⟨clOf_fnd HP.out⟩
      clear hlk hup hlk2 hfd c1 c2 c3 e1 e2 e3
      go_loopw [6, 17] (fun _ i wr => ∃ (j : Nat) (Sj : List Str), j ≤ n7 ∧ i = .int .i64 j ∧ Box (FoundJ ps s S Sj (p.cl.take j)) ∧ Box (MapS wr b Sj) ∧ Box (w1.grownBy wr (some b))) (fun _ i _ => n7 - (intOf i).toNat)
      case atStart => exact ⟨0, _, Nat.zero_le _, rfl, by simpa using HJ0, HS1, ⟨World.grownBy.refl _ _⟩⟩
      case round =>
        clear HJ0
        obtain ⟨j, Sj, hj, rfl, HJ, HSj, HGj⟩ := hrel
        have HEj := Box.mk (HE1.out.grown HGj.out)
        by_cases hjl : j < n7
        · obtain ⟨b5, o5, x, rfl, hb5, hx5, hs5, hc5⟩ := HQ.out.str_at j hjl
          replace hc5 := cellk HEj.out.bel hb5 hc5
          have hxm : x ∈ p.cl := List.mem_iff_getElem?.2 ⟨j, hx5⟩
          have HTK : Box (p.cl.take (j + 1) = p.cl.take j ++ [x]) := ⟨by rw [List.take_add_one, hx5]; rfl⟩
          have C := Box.mk (IH.out wr Sj x (by
            have := cntN_lt (fnd_mem HP.out) HIN.out HJ.out.here HJ.out.old
            have := HCN.out
            omega) HEj.out HSj.out HJ.out.nodup HJ.out.there (HT.out p (fnd_some HP.out).1 x hxm))
          have HXM : Box (x ∈ clOf ps s) := ⟨by rw [HCL.out]; exact hxm⟩
          have e3 := HEj.out.c3
          clear hx5 hs5 hxm
          go_wp2_with fail
          refine C.out.mono ?_
          rintro e w3 ⟨rfl, Sk, hF, hSk, hgk⟩
          have HF := Box.mk (HJ.out.step HXM.out hF)
          rw [← HTK.out] at HF
          have HSk := Box.mk hSk
          have HGk := Box.mk (grown_tr HGj.out hgk)
          clear hF hSk hgk e3 hc5 C
          go_wp2_with fail
          go_roundw
          case rel => exact ⟨j + 1, Sk, by omega, by go_num, HF, HSk, HGk⟩
          case measure => simp [intOf] <;> omega
        · obtain rfl : j = n7 := by omega
          go_wp2_with fail
          go_end0
          rw [List.take_of_length_le (by rw [HQ.out.len]; exact Nat.le_refl _), ← HCL.out] at HJ
          exact ⟨rfl, Sj, HJ.out.all, HSj.out, grown_tr HG1.out HGj.out⟩

theorem run_store_fn (P : Program) (w : World) (a : Addr) (m : Mode) (f : Fn) (x y : Array Value) : (store a (.func f x y) m).run P w = stored P w a (.func f x y) m := run_store P w a _ m rfl
attribute [local go_sem] run_store_fn

set_option maxRecDepth 100000 in
set_option maxHeartbeats 2000000 in
theorem c_reach (ps : List Pc) (bp : Nat) (x : Str) (w : World) (hm : MapP w bp ps) (hT : AllThere ps) (hc : ∀ p ∈ ps, p.cl.length ≤ 100) (hx : ∃ p, fnd x ps = some p) :
    Calls Try.prog 66 #[.map (some bp), .string x] w fun e w' => ∃ b S, e = .returned (.map (some b)) ∧ MapS w' b S ∧ Found ps x [] S ∧ w.heap.size ≤ b ∧ Below w.heap.size w w' := by
  have HM := Box.mk hm
  have HT := Box.mk hT
  have HC := Box.mk hc
  have HX := Box.mk hx
  clear hm hT hc hx
  go_enter Try.func66, Try.ntmps66
  have hmm := @run_makeMap Try.prog
  go_wp2_with fail
  have HW : Box (RcE w ((((w.alloc (.cells #[.map (some bp)] 57)).alloc (.map #[] 0)).alloc (.cells #[.map (some (w.heap.size + 1))] 82)).alloc (.cells #[.func (.func 102) #[] #[ptr (w.heap.size + 1 + 1), ptr w.heap.size, ptr (w.heap.size + 1 + 1 + 1)]] 126))
      (w.heap.size + 1 + 1) w.heap.size (w.heap.size + 1 + 1 + 1) (w.heap.size + 1) bp) := ⟨by
    refine ⟨cell_al _ (cell_new _ _ _ (by simp) rfl), cell_al _ (cell_al _ (cell_al _ (cell_new _ _ _ rfl rfl))), cell_new _ _ _ (by simp) rfl, bel_alloc2 (bel_alloc2 (bel_alloc2 (bel_alloc w _) _) _) _, by omega, by omega, by omega, by omega⟩⟩
  have HS : Box (MapS ((((w.alloc (.cells #[.map (some bp)] 57)).alloc (.map #[] 0)).alloc (.cells #[.map (some (w.heap.size + 1))] 82)).alloc (.cells #[.func (.func 102) #[] #[ptr (w.heap.size + 1 + 1), ptr w.heap.size, ptr (w.heap.size + 1 + 1 + 1)]] 126)) (w.heap.size + 1) []) := ⟨by
    have := MapS_made (w.alloc (.cells #[.map (some bp)] 57))
    have e : (w.alloc (.cells #[.map (some bp)] 57)).heap.size = w.heap.size + 1 := by simp
    rw [e] at this
    exact (this.below (bel_alloc _ _)).below (bel_alloc _ _)⟩
  clear hmm
  refine (c_reach1 ps w (w.heap.size + 1 + 1) w.heap.size (w.heap.size + 1 + 1 + 1) (w.heap.size + 1) bp HM.out HT.out HC.out (cntN ps [] + 1) _ [] x (Nat.lt_succ_self _) HW.out HS.out List.nodup_nil (by simp) HX.out).mono ?_
  rintro e w3 ⟨rfl, S', hF, hS', hg⟩
  have HF := Box.mk hF
  have HS' := Box.mk hS'
  have HE := Box.mk (HW.out.grown hg)
  have e1 := HE.out.c1
  clear hF hS' hg HW HS
  go_wp2_with fail
  go_ret
  exact ⟨_, S', rfl, HS'.out, HF.out, by omega, HE.out.bel⟩
end Go.Proofs.Ytchhjldopecliaa
namespace Go.Proofs.Ytchhjldopecliaa
open Go.RowKit

theorem opn_all {ms : List Md} (h : opn ms = 0) : AllThere (prs ms) := fun _ hp _ hs => opn_there h hp hs
theorem keys_set (l : List Str) : (l.map (fun s => (s, Value.bool true))).map (·.1) = l := by
  rw [List.map_map]
  exact List.map_id l
theorem Found.len {ps : List Pc} {x : Str} {S : List Str} (h : Found ps x [] S) (hl : ps.length ≤ 100) : S.length ≤ 100 := by
  have := nodup_le h.nodup (fun y hy => fnd_mem (h.there y hy).choose_spec)
  rw [List.length_map] at this
  omega
theorem prs_sizes {w : World} {A : Option Addr} {n c : Nat} {ms : List Md} (h : SlR w 5 RMd A n c ms) : ∀ x ∈ (prs ms).map (·.nm), x.size ≤ LIM := by
  rw [prs_nm]
  exact (mds_sizes h).2

set_option maxHeartbeats 2000000 in
theorem c_Reach (A : Option Addr) (n c : Nat) (ms : List Md) (x : Str) (w : World) (h : SlR w 5 RMd A n c ms) :
    Calls Try.prog 29 #[.slice A n c, .string x] w fun e w' => ∃ A' c', e = .returned (.tuple #[.slice A' (rea ms x).1.length c', .int .i64 (rea ms x).2]) ∧ SlR w' 1 RStr A' (rea ms x).1.length c' (rea ms x).1 ∧ Below w.heap.size w w' := by
  have hlim := h.lim
  have H := Box.mk h
  clear h
  go_enter Try.func29, Try.ntmps29
  go_wp2_with fail
  refine (c_openFrom A n c ms x w H.out).mono ?_
  rintro e w1 ⟨⟨v, rfl, hv⟩, hb1⟩
  have HB1 := Box.mk hb1
  clear hb1
  by_cases h0 : opf ms x = 0
  · obtain ⟨hop, hg, hp0, b, rfl, hm, hbl⟩ := hv h0
    have HO : Box (rea ms x = (setS (rchL (prs ms) x), 0)) := ⟨by simp [rea, h0]⟩
    have C := Box.mk (c_reach (prs ms) b x w1 hm (opn_all hop) (fun p hp => hg.pcalls hp) hp0)
    have HPL := Box.mk hg.plen
    have HSZ := Box.mk (prs_sizes H.out)
    rw [h0]
    clear hop hg hp0 hm hbl h0 hv
    go_wp2_with fail
    refine C.out.mono ?_
    rintro e w2 ⟨b2, S, rfl, hS, hF, hb2l, hb2⟩
    have HB2 := Box.mk (below_tr HB1.out HB1.out.size hb2)
    have HS := Box.mk hS
    have HF := Box.mk hF
    clear hb2 hS hF hb2l C
    go_wp2_with fail
    refine (c_KeysB (some b2) w2).mono ?_
    rintro e w3 ⟨rfl, hw3⟩
    have HB3 : Box (Below w.heap.size w w3) := ⟨hw3 ▸ bel_alloc2 HB2.out _⟩
    have CS := Box.mk (c_SortedKeysB b2 _ w2 w3 HS.out hw3 (by rw [List.length_map]; have := HF.out.len HPL.out; omega))
    clear hw3
    go_wp2_with fail
    refine CS.out.mono ?_
    rintro e w4 ⟨v4, rfl, ho, hb4⟩
    rw [keys_set, srtS_nodup HF.out.nodup, HF.out.setS] at ho
    obtain ⟨B, cB, rfl, hs⟩ := own_strs ho (fun y hy => HSZ.out y (mem_rchL.1 (mem_setS.1 hy)).1) (by
      have h1 := setS_length_le (rchL (prs ms) x)
      have h2 : (rchL (prs ms) x).length ≤ (prs ms).length := by
        unfold rchL
        refine Nat.le_trans (List.length_filter_le ..) ?_
        rw [List.length_map]
        exact Nat.le_refl _
      have := HPL.out
      rw [LIM_eq]
      omega)
    have HSL := Box.mk hs
    have HB4 := Box.mk (below_tr HB3.out HB3.out.size hb4)
    clear ho hs hb4 CS
    go_wp2_with fail
    go_ret2
    rw [HO.out]
    exact ⟨_, _, rfl, HSL.out, HB4.out⟩
  · have HO : Box (rea ms x = ([], opf ms x)) := ⟨by simp [rea, h0]⟩
    have h0' : (opf ms x != 0) = true := by simpa using h0
    clear hv
    generalize opf ms x = V at *
    go_wp2_with fail
    go_ret2
    rw [HO.out]
    exact ⟨_, _, rfl, slr_nil _ _ _ _ _, HB1.out⟩
end Go.Proofs.Ytchhjldopecliaa
namespace Go.Proofs.Ytchhjldopecliaa
open Go.RowKit

section
variable {P : Program} {ops : Array Oper} {rest : List Oper} {o : Oper} {a : Act} {Q : Exit → Act → World → Prop} {K : Act → World → Prop}
theorem wpL_app_q (w : World) (base : Nat) (hgd : o.guard = none) (s x : Operand) (t e : TypeId) (ho : o.op = .call { callee := .builtin .append, args := #[s, x], argTypes := #[t, t] }) (z : Value) (bytes : Nat)
    (ht : P.underlying t = some (.slice e)) (hinfo : (P.info? e).map (fun i => (i.zero, i.size, i.bytes)) = some (some z, 1, bytes)) (hzs : z.cells.size = 1) (hb0 : 0 < bytes)
    (v : Value) (xs : List Value) (hs : a.eval s = v) (hown : Que w base e v xs) (ad : Addr) (c : Nat) (y : Value) (hx : a.eval x = .slice (some ad) 1 c) (hy : w.cell? ad = some y) (h1 : y.oneCell' = true)
    (hbytes : (xs.length + 1) * bytes ≤ 140737488355328) (hbase : base ≤ w.heap.size)
    (h : ∀ v' w', Que w' base e v' (xs ++ [y]) → w.grownBy w' v.ownBlock → (v'.ownBlock = v.ownBlock ∨ ∃ b, v'.ownBlock = some b ∧ w.heap.size ≤ b) → wpList P ops Q rest (a.put o.dst v') w') :
    wpList P ops Q (o :: rest) a w := by
  refine wpList_plain hgd fun K' hK' => ?_
  obtain ⟨v', w', hr, h2, h3, h5⟩ := run_app_q (P := P) w base t o.type e z bytes ht hinfo hzs hb0 v xs hown ad c y hy h1 hbytes hbase
  unfold Oper.wp execOp
  simp only [ho, resolve, invoke, builtin, Sem.run_bind, Sem.run_pure, Result.andThen_ok, List.map_toArray, List.map_cons, List.map_nil, hs, hx, hr]
  exact hK' _ _ (h v' w' h2 h3 h5)
end

theorem fnd_at : ∀ {ps : List Pc}, (ps.map (·.nm)).Nodup → ∀ {i : Nat} {p : Pc}, ps[i]? = some p → fnd p.nm ps = some p ∧ fdx p.nm ps = i
  | ps, hn, i, p, h => by
    rcases fdx_spec p.nm ps with ⟨h1, h2⟩ | ⟨k, q, h1, h2, h3⟩
    · exact absurd (List.mem_map_of_mem (List.mem_iff_getElem?.2 ⟨i, h⟩)) (fnd_none.1 h2)
    · have hq := (fnd_some h3).2
      have hk : k = i := by
        have e1 : (ps.map (·.nm))[k]? = some p.nm := by rw [List.getElem?_map, h2]; simp [hq]
        have e2 : (ps.map (·.nm))[i]? = some p.nm := by rw [List.getElem?_map, h]; rfl
        exact (List.getElem?_inj (List.getElem?_eq_some_iff.1 e1).1 hn).1 (e1.trans e2.symm)
      subst hk
      rw [h] at h2
      injection h2 with h2
      subst h2
      exact ⟨h3, h1⟩

/-- The marks of procedures. -/
def mrk (ps : List Pc) (S : List Str) : List Bool := ps.map (fun p => decide (p.nm ∈ S))
theorem mrk_length (ps : List Pc) (S : List Str) : (mrk ps S).length = ps.length := by simp [mrk]
theorem mrk_get {ps : List Pc} (S : List Str) {i : Nat} {p : Pc} (h : ps[i]? = some p) : (mrk ps S)[i]? = some (decide (p.nm ∈ S)) := by simp [mrk, h]
theorem mrk_set {ps : List Pc} (hn : (ps.map (·.nm)).Nodup) {S : List Str} {i : Nat} {p : Pc} (h : ps[i]? = some p) : (mrk ps S).set i true = mrk ps (S ++ [p.nm]) := by
  apply List.ext_getElem?
  intro j
  rw [List.getElem?_set]
  by_cases e : i = j
  · subst e
    have hl := (List.getElem?_eq_some_iff.1 h).1
    rw [if_pos rfl, if_pos (by rw [mrk_length]; exact hl), mrk_get _ h]
    simp
  · rw [if_neg e]
    cases hj : ps[j]? with
    | none =>
      have := List.getElem?_eq_none_iff.1 hj
      rw [List.getElem?_eq_none (by rw [mrk_length]; exact this), List.getElem?_eq_none (by rw [mrk_length]; exact this)]
    | some q =>
      rw [mrk_get _ hj, mrk_get _ hj]
      have : q.nm ≠ p.nm := by
        intro e2
        have h1 := (fnd_at hn h).2
        have h2 := (fnd_at hn hj).2
        rw [e2, h1] at h2
        omega
      simp [this]

/-- Bools of one's own. -/
def BolB (w : World) (r : Nat) (l : List Bool) : Prop := w.heap[r]? = some (.cells (l.map Value.bool).toArray 4 (0, 0))
theorem BolB.cell {w : World} {r : Nat} {l : List Bool} (h : BolB w r l) {j : Nat} {x : Bool} (hx : l[j]? = some x) : w.cell? ⟨r, j, none⟩ = some (.bool x) := by
  unfold BolB at h
  simp [World.cell?, h, hx]
theorem BolB.frozen {w : World} {r : Nat} {l : List Bool} (h : BolB w r l) (j : Nat) : w.frozen? ⟨r, j, none⟩ = false := by
  unfold BolB at h
  simp [World.frozen?, h]
theorem BolB.lt {w : World} {r : Nat} {l : List Bool} (h : BolB w r l) : r < w.heap.size := (Array.getElem?_eq_some_iff.1 h).1
theorem BolB.set {w : World} {r : Nat} {l : List Bool} (h : BolB w r l) (j : Nat) (x : Bool) : BolB (w.setCell ⟨r, j, none⟩ (.bool x)) r (l.set j x) ∧ w.grownBy (w.setCell ⟨r, j, none⟩ (.bool x)) (some r) := by
  refine ⟨?_, ⟨rfl, rfl, rfl, by simp [World.setCell], fun i hi hne => ?_⟩⟩
  · unfold BolB at *
    simp only [World.setCell, Array.getElem?_modify, if_true, h, Option.map_some]
    congr 2
    simp [List.map_set]
  · simp only [World.setCell]
    have hne' : r ≠ i := fun e => hne (by rw [e])
    simp [Array.getElem?_modify, hne']
theorem BolB.sl {w : World} {r : Nat} {l : List Bool} (h : BolB w r l) (hl : l.length ≤ LIM) : SlR w 1 RBool (some ⟨r, 0, none⟩) l.length l.length l := by
  refine ⟨rfl, Nat.le_refl _, hl, fun _ => ⟨r, 0, rfl, h.lt, fun i x hx => ⟨[.bool x], rfl, rfl, fun j u hu => ?_⟩⟩⟩
  match j, hu with
  | 0, hu =>
    have hu : Value.bool x = u := by simpa using hu
    subst hu
    have := h.cell hx
    simpa using this
  | j + 1, hu => simp at hu

/-- What the search of the reference holds: what is marked, what is still to do. -/
structure RchI (ps : List Pc) (x : Str) (S Q : List Str) : Prop where
  new : ∀ y ∈ S, Rch ps x y
  todo : ∀ y ∈ Q, Rch ps x y
  full : ∀ y ∈ S, ∀ z ∈ clOf ps y, z ∈ S ∨ z ∈ Q
  here : x ∈ S ∨ x ∈ Q
theorem RchI.all {ps : List Pc} {x : Str} {S : List Str} (h : RchI ps x S []) (y : Str) : y ∈ S ↔ Rch ps x y :=
  ⟨h.new y, fun hy => hy.sub (h.here.resolve_right (by simp)) (fun y hy z hz => (h.full y hy z hz).resolve_right (by simp))⟩
theorem RchI.pop {ps : List Pc} {x z : Str} {S Q : List Str} (h : RchI ps x S (z :: Q)) (hz : z ∈ S) : RchI ps x S Q := by
  refine ⟨h.new, fun y hy => h.todo y (List.mem_cons_of_mem _ hy), fun y hy u hu => ?_, ?_⟩
  · rcases h.full y hy u hu with h1 | h1
    · exact .inl h1
    · rcases List.mem_cons.1 h1 with rfl | h1
      · exact .inl hz
      · exact .inr h1
  · rcases h.here with h1 | h1
    · exact .inl h1
    · rcases List.mem_cons.1 h1 with rfl | h1
      · exact .inl hz
      · exact .inr h1
theorem RchI.push {ps : List Pc} {x z : Str} {S Q : List Str} (h : RchI ps x S (z :: Q)) : RchI ps x (S ++ [z]) (Q ++ clOf ps z) := by
  have hz := h.todo z (List.mem_cons_self ..)
  refine ⟨fun y hy => ?_, fun y hy => ?_, fun y hy u hu => ?_, ?_⟩
  · rcases List.mem_append.1 hy with hy | hy
    · exact h.new y hy
    · obtain rfl : y = z := by simpa using hy
      exact hz
  · rcases List.mem_append.1 hy with hy | hy
    · exact h.todo y (List.mem_cons_of_mem _ hy)
    · exact .call hz hy
  · simp only [List.mem_append, List.mem_singleton] at hy ⊢
    rcases hy with hy | rfl
    · rcases h.full y hy u hu with h1 | h1
      · exact .inl (.inl h1)
      · rcases List.mem_cons.1 h1 with rfl | h1
        · exact .inl (.inr rfl)
        · exact .inr (.inl h1)
    · exact .inr (.inr hu)
  · simp only [List.mem_append, List.mem_singleton]
    rcases h.here with h1 | h1
    · exact .inl (.inl h1)
    · rcases List.mem_cons.1 h1 with h1 | h1
      · exact .inl (.inr h1)
      · exact .inr (.inl h1)
/-- The places of names. -/
def qNum (ps : List Pc) (Q : List Str) : List Value := Q.map (fun z => Value.int .i64 (fdx z ps))
theorem cut30 (g off q cap : Nat) (_hq : q ≤ cap) (W : World) : (Instr.slice 30 (.slice (some ⟨g, off, none⟩) (q + 1) (cap + 1)) (some (.int .i64 1)) none none).run Try.prog W = .ok (.slice (if cap + 1 = 1 then some ⟨g, off, none⟩ else some ⟨g, off + 1, none⟩) q cap) W := by
  have hu : Try.prog.underlying 30 = some (.slice (Try.prog.elem 30)) := by kernel_rfl
  have e3 : (sizeOf (Try.prog.elem 30)).run Try.prog W = .ok 1 W := by kernel_rfl
  rw [run_slice_l W 30 _ _ _ hu .i64 1 (by decide) (by omega), e3]
  simp only [Result.andThen, sliced]
  congr 2
theorem makeB (n : Nat) (hn : n ≤ 1000) (W : World) : (Instr.makeSlice 89 (.int .i64 (n : Int)) (.int .i64 (n : Int))).run Try.prog W = .ok (.slice (some ⟨W.heap.size, 0, none⟩) n n) (W.alloc (.cells (Array.replicate n (.bool false)) 4)) := by
  have := run_make_row' (P := Try.prog) 89 4 (.bool false) 1 Try.underlying89 (by kernel_rfl) rfl .i64 .i64 n (by omega) (by omega) W
  have e : madeCells #[Value.bool false] n = Array.replicate n (Value.bool false) := by
    apply Array.toList_inj.1
    rw [toList_madeCells_one]
    simp
  rw [this, e]
/-- What a search comes to. -/
def RchIs (ps : List Pc) (x : Str) (w : World) (np : Nat) (e : Ending) (w' : World) : Prop :=
  ∃ bo, e = .returned (.slice (some ⟨bo, 0, none⟩) np np) ∧ BolB w' bo (ps.map (fun p => rchB ps x p.nm)) ∧ w.heap.size ≤ bo ∧ Below w.heap.size w w'

set_option maxRecDepth 100000 in
set_option maxHeartbeats 4000000 in
theorem r_reach (A : Option Addr) (np c : Nat) (ps : List Pc) (x : Str) (w : World) (h : SlR w 4 RPc A np c ps) (hn : (ps.map (·.nm)).Nodup) (hl : np ≤ 100) (hT : AllThere ps) (hc : ∀ p ∈ ps, p.cl.length ≤ 100) {k : Nat} {p0 : Pc} (hk : ps[k]? = some p0) (hx : p0.nm = x) :
    Calls Try.prog 67 #[.slice A np c, .int .i64 k] w (RchIs ps x w np) := by
  have H := Box.mk h
  have HN := Box.mk hn
  have HT := Box.mk hT
  have HC := Box.mk hc
  have HL := Box.mk h.len
  have hlim := h.lim
  have hf0 := fnd_at hn hk
  rw [hx] at hf0
  have HF0 := Box.mk hf0
  have hmk := makeB np (by omega)
  clear h hn hT hc hk hx hf0
  go_enter Try.func67, Try.ntmps67
  go_wp2_with fail
  clear hmk
  have HB0 : Box (BolB ((w.alloc (.cells (Array.replicate np (.bool false)) 4)).alloc (.cells #[.int .i64 k] 3)) w.heap.size (mrk ps [])) := ⟨by
    have e : mrk ps [] = List.replicate np false := by
      unfold mrk
      rw [← HL.out]
      simp [List.map_const']
    unfold BolB
    rw [e, Below.heap_alloc _ _ _ (by simp), heap_alloc_new]
    simp⟩
  have HQ0 : Box (Que ((w.alloc (.cells (Array.replicate np (.bool false)) 4)).alloc (.cells #[.int .i64 k] 3)) (w.heap.size + 1) 3 (.slice (some ⟨w.heap.size + 1, 0, none⟩) 1 1) (qNum ps [x])) := ⟨by
    refine .inr ⟨w.heap.size + 1, 0, 1, #[.int .i64 k], rfl, Nat.le_refl _, ?_, Nat.le_refl _, by decide, rfl, ?_⟩
    · have e : w.heap.size + 1 = (w.alloc (.cells (Array.replicate np (.bool false)) 4)).heap.size := by simp
      rw [e, heap_alloc_new]
    · simp [qNum, HF0.out.2]⟩
  have HW0 : Box (Below w.heap.size w ((w.alloc (.cells (Array.replicate np (.bool false)) 4)).alloc (.cells #[.int .i64 k] 3))) := ⟨bel_alloc2 (bel_alloc w _) _⟩
  have HI0 : Box (RchI ps x [] [x]) := ⟨⟨by simp, (fun y hy => by rw [List.mem_singleton.1 hy]; exact .here), by simp, .inr (by simp)⟩⟩
  go_loopg [6, 7, 8] (cntN ps [] * 101 + 1) (fun g v6 _ _ wr => ∃ S Q, g = cntN ps S * 101 + Q.length ∧ Box (BolB wr w.heap.size (mrk ps S)) ∧ Box (Que wr (w.heap.size + 1) 3 v6 (qNum ps Q)) ∧ Box (Below w.heap.size w wr) ∧ Box (RchI ps x S Q) ∧ Box (Q.length ≤ 1 + S.length * 100 ∧ S.Nodup))
  case atStart => exact ⟨[], [x], rfl, HB0, HQ0, HW0, HI0, ⟨by simp, List.nodup_nil⟩⟩
  case round =>
    clear HB0 HQ0 HW0 HI0
    obtain ⟨S, Q, rfl, HB, HQ, HW, HI, HLQ⟩ := hrel
    cases Q with
    | nil =>
      obtain ⟨A6, c6, rfl⟩ := HQ.out.nil
      go_wp2_with fail
      go_ret
      have e : mrk ps S = ps.map (fun p => rchB ps x p.nm) := by
        unfold mrk
        apply List.map_congr_left
        intro p _
        rw [Bool.eq_iff_iff, decide_eq_true_eq, rchB_iff]
        exact HI.out.all p.nm
      exact ⟨_, rfl, by rw [← e]; exact HB.out, Nat.le_refl _, HW.out⟩
    | cons z Q =>
      obtain ⟨g6, o6, c6, rfl, hc6, hz6, hq6⟩ := HQ.out.cons
      have hql : (qNum ps Q).length = Q.length := by simp [qNum]
      have hR := HI.out.todo z (List.mem_cons_self ..)
      obtain ⟨pz, hpz⟩ := hR.there HT.out HF0.out.1
      rcases fdx_spec z ps with ⟨_, h2⟩ | ⟨i, q, hi1, hi2, hi3⟩
      · rw [h2] at hpz; cases hpz
      rw [hpz] at hi3
      injection hi3 with hi3
      subst hi3
      have hil : i < np := by rw [← HL.out]; exact (List.getElem?_eq_some_iff.1 hi2).1
      have hznm := (fnd_some hpz).2
      subst hznm
      have hz6' : wr.cell? ⟨g6, o6, none⟩ = some (.int .i64 (i : Int)) := by rw [← hi1]; exact hz6
      rw [List.length_map] at hc6 hq6 ⊢
      have hsl := cut30 g6 o6 Q.length c6 hc6
      generalize (if c6 + 1 = 1 then some (⟨g6, o6, none⟩ : Addr) else some ⟨g6, o6 + 1, none⟩) = A6 at hq6 hsl
      have hbc := HB.out.cell (mrk_get S hi2)
      have hbf := HB.out.frozen i
      have HQ6 := Box.mk hq6
      have HI2 := Box.mk hi2
      have HPZ := Box.mk hpz
      have HI1 := Box.mk hi1
      have HSL : Box (S.length ≤ np) := ⟨by
        have := nodup_le HLQ.out.2 (fun y hy => by
          obtain ⟨q, hq⟩ := (HI.out.new y hy).there HT.out HF0.out.1
          exact fnd_mem hq)
        rw [List.length_map, HL.out] at this
        exact this⟩
      clear hz6 hq6 hi2 hpz hi1 hR hql
      by_cases hin : pz.nm ∈ S
      · rw [decide_eq_true hin] at hbc
        have HIN := Box.mk hin
        clear hin
        go_wp2_with fail
        go_roundg (cntN ps S * 101 + Q.length)
        case measure => simp
        case rel => exact ⟨S, Q, rfl, HB, HQ6, HW, ⟨HI.out.pop HIN.out⟩, ⟨by have := HLQ.out.1; simp at this; omega, HLQ.out.2⟩⟩
      · rw [decide_eq_false hin] at hbc
        have HIN := Box.mk hin
        obtain ⟨b, off, p', A1, n1, c1, rfl, hb, hx', _, hcl, _, _, _, h3⟩ := H.out.pc_at i hil
        rw [HI2.out] at hx'
        injection hx' with hx'
        subst hx'
        have h3' := cellk HW.out hb h3
        have hn1 : n1 ≤ 100 := by have := HC.out pz (List.mem_iff_getElem?.2 ⟨i, HI2.out⟩); rw [hcl.len] at this; exact this
        have HCL := Box.mk hcl
        have H3 := Box.mk (And.intro hb h3)
        obtain ⟨hs1, hs2⟩ := HB.out.set i true
        rw [mrk_set HN.out HI2.out] at hs1
        have HB1 := Box.mk hs1
        have HQ1 := Box.mk (HQ6.out.kept hs2 (by
          cases A6 with
          | none => exact .inl rfl
          | some a => exact .inr (fun e => by have := (HQ6.out.lt _ e).1; omega)))
        have HW1 := Box.mk (HW.out.grown hs2 HW.out.size (fun q hq => by injection hq with hq; omega))
        have HPU := Box.mk HI.out.push
        have HCO : Box (clOf ps pz.nm = pz.cl) := ⟨clOf_fnd HPZ.out⟩
        have HSQ : Box (∀ j, j ≤ n1 → (qNum ps (Q ++ pz.cl.take j)).length ≤ 100000) := ⟨fun j hj => by
          have h1 := HLQ.out.1
          have h2 := HSL.out
          have h3 : (pz.cl.take j).length ≤ j := List.length_take_le ..
          simp only [qNum, List.length_map, List.length_append]
          simp only [List.length_cons] at h1
          omega⟩
        clear hin hcl hb h3 hs1 hs2
        go_wp2_with fail
        generalize wr.setCell ⟨w.heap.size, i, none⟩ (.bool true) = W1 at *
        clear hbc hbf hz6' hsl HB HW HQ6 HQ
        go_loopw [6, 8] (fun v6 t wx => ∃ j : Nat, j ≤ n1 ∧ t = .int .i64 j ∧ Box (BolB wx w.heap.size (mrk ps (S ++ [pz.nm]))) ∧ Box (Que wx (w.heap.size + 1) 3 v6 (qNum ps (Q ++ pz.cl.take j))) ∧ Box (Below w.heap.size w wx)) (fun _ t _ => n1 - (intOf t).toNat)
        case atStart => exact ⟨0, Nat.zero_le _, rfl, HB1, ⟨by rw [List.take_zero, List.append_nil]; exact HQ1.out⟩, HW1⟩
        case round =>
          clear HB1 HQ1 HW1
          obtain ⟨j, hj, rfl, HBx, HQx, HWx⟩ := hrel
          have h3' := cellk HWx.out H3.out.1 H3.out.2
          by_cases hjl : j < n1
          · obtain ⟨b5, o5, y, rfl, hb5, hy5, hs5, hc5⟩ := HCL.out.str_at j hjl
            replace hc5 := cellk HWx.out hb5 hc5
            have HTK : Box (qNum ps (Q ++ pz.cl.take (j + 1)) = qNum ps (Q ++ pz.cl.take j) ++ [.int .i64 (fdx y ps)]) := ⟨by
              rw [List.take_add_one, hy5]
              simp [qNum]⟩
            have CF := Box.mk (r_find y (some ⟨b, off, none⟩) np c ps wr (H.out.below mono_pc HWx.out))
            have HLB : Box (((qNum ps (Q ++ pz.cl.take j)).length + 1) * 8 ≤ 140737488355328) := ⟨by have := HSQ.out j hj; omega⟩
            have HBS : Box (w.heap.size + 1 ≤ wr.heap.size) := ⟨HBx.out.lt⟩
            have hlt6 := HQx.out.lt
            have HL6 := Box.mk hlt6
            clear hy5 hs5 hlt6
            generalize fdx y ps = fy at *
            go_wp2_with fail
            refine CF.out.mono ?_
            rintro e w3 ⟨rfl, rfl⟩
            go_wp2_with (at_builtin; refine wpL_app_q _ (w.heap.size + 1) rfl _ _ 30 3 rfl (.int .i64 0) 8 Try.underlying30 info_int rfl (by decide) u6 _ rfl (HQx.out.alloc _) ⟨_, 0, none⟩ 1 (.int .i64 fy) rfl (by simp) rfl HLB.out (Nat.le_trans HBS.out (bel_alloc _ _).size) ?_; intro v6' wa hq6 hg6 hat6)
            have hg6' := grown_al wr hg6 rfl rfl rfl rfl
            have HBa := (hg6'.block _ HBx.out.lt (fun e => by have := (HL6.out w.heap.size e.symm).1; omega)).trans HBx.out
            have HWa := HWx.out.grown hg6' HWx.out.size (fun q hq => by have := (HL6.out q hq).1; omega)
            go_roundw
            case rel => exact ⟨j + 1, by omega, by go_num, ⟨HBa⟩, ⟨by rw [HTK.out]; exact hq6⟩, ⟨HWa⟩⟩
            case measure => simp [intOf] <;> omega
          · obtain rfl : j = n1 := by omega
            have e : pz.cl.take j = pz.cl := List.take_of_length_le (by rw [HCL.out.len]; exact Nat.le_refl _)
            rw [e] at HQx
            rw [HCO.out] at HPU
            have HCN := Box.mk (cntN_lt (fnd_mem HPZ.out) HIN.out (S' := S ++ [pz.nm]) (by simp) (fun y hy => List.mem_append.2 (.inl hy)))
            have hcl := HCL.out.len
            go_wp2_with fail
            go_roundg (cntN ps (S ++ [pz.nm]) * 101 + (Q ++ pz.cl).length)
            case measure => have := HCN.out; simp only [List.length_append, List.length_cons]; omega
            case rel => exact ⟨S ++ [pz.nm], Q ++ pz.cl, rfl, HBx, HQx, HWx, HPU, ⟨by have := HLQ.out.1; simp only [List.length_append, List.length_cons, List.length_nil] at this ⊢; omega, nodup_snoc HLQ.out.2 HIN.out⟩⟩
end Go.Proofs.Ytchhjldopecliaa
namespace Go.Proofs.Ytchhjldopecliaa
open Go.RowKit

theorem SlR.bool_at {w : World} {A : Option Addr} {n c : Nat} {xs : List Bool} (h : SlR w 1 RBool A n c xs) (k : Nat) (hk : k < n) : ∃ b off x, A = some ⟨b, off, none⟩ ∧ b < w.heap.size ∧ xs[k]? = some x ∧ w.cell? ⟨b, off + k, none⟩ = some (.bool x) := by
  obtain ⟨b, off, x, cs, e, hlt, hx, hl, hr, hc⟩ := h.at_ k hk
  have hr : cs = [Value.bool x] := hr
  subst hr
  exact ⟨b, off, x, e, hlt, hx, by simpa using hc 0 _ rfl⟩
theorem FromOk.at_ {w : World} {ms : List Md} {x : Str} {v : Value} {k : Int} (h : FromOk w ms x v k) : ∃ (i : Nat) (p : Pc), k = i ∧ (prs ms)[i]? = some p ∧ p.nm = x := by
  obtain ⟨_, _, p, _, _, hk, hp, _⟩ := h
  rcases fdx_spec x (prs ms) with ⟨_, h2⟩ | ⟨i, q, h1, h2, h3⟩
  · rw [h2] at hp; cases hp
  · exact ⟨i, q, by rw [hk, h1], h2, (fnd_some h3).2⟩

set_option maxRecDepth 100000 in
set_option maxHeartbeats 4000000 in
theorem r_Reach (A : Option Addr) (n c : Nat) (ms : List Md) (x : Str) (w : World) (h : SlR w 5 RMd A n c ms) :
    Calls Try.prog 30 #[.slice A n c, .string x] w fun e w' => ∃ A' c', e = .returned (.tuple #[.slice A' (rea ms x).1.length c', .int .i64 (rea ms x).2]) ∧ SlR w' 1 RStr A' (rea ms x).1.length c' (rea ms x).1 ∧ Below w.heap.size w w' := by
  have hlim := h.lim
  have H := Box.mk h
  clear h
  go_enter Try.func30, Try.ntmps30
  go_wp2_with fail
  refine (r_from A n c ms x w H.out).mono ?_
  rintro e w1 ⟨⟨v, k, rfl, hv⟩, hb1⟩
  have HB1 := Box.mk hb1
  clear hb1
  by_cases h0 : opf ms x = 0
  · obtain ⟨ki, pk, hk0, hki, hkn⟩ := (hv h0).at_
    obtain ⟨hop, hg, p0, B, cb, hkf, hf0, rfl, hp⟩ := hv h0
    have HO : Box (rea ms x = (setS (rchL (prs ms) x), 0)) := ⟨by simp [rea, h0]⟩
    have HPL := hg.plen
    have HSZ := Box.mk (prs_sizes H.out)
    obtain ⟨np, hnp⟩ : ∃ np, np = (prs ms).length := ⟨_, rfl⟩
    rw [← hnp] at hp HPL ⊢
    have HP := Box.mk hp
    have HNP := Box.mk hnp
    have C := Box.mk (r_reach B np cb (prs ms) x w1 hp hg.nms HPL (opn_all hop) (fun p hp => hg.pcalls hp) hki hkn)
    rw [← hk0] at C
    have HK0 := Box.mk hk0
    rw [h0]
    clear hop hg hp h0 hv hki hkn hnp hk0 hkf hf0
    generalize prs ms = ps at *
    go_wp2_with fail
    refine C.out.mono ?_
    rintro e w2 ⟨bo, rfl, hbo, hbl, hb2⟩
    have HB2 := Box.mk (below_tr HB1.out HB1.out.size hb2)
    have HP2 := Box.mk (HP.out.below mono_pc hb2)
    have HBO := Box.mk hbo
    clear hb2 hbo hbl C
    go_wp2_with fail
    go_loopw [10, 11] (fun v10 i wr => ∃ k : Nat, k ≤ np ∧ i = .int .i64 k ∧ Box (Below w2.heap.size w2 wr) ∧ Box (wr.ownsRow w2.heap.size 9 1 v10 (((ps.take k).map (·.nm)).filter (rchB ps x)).length ((((ps.take k).map (·.nm)).filter (rchB ps x)).map Value.string))) (fun _ i _ => np - (intOf i).toNat)
    case atStart => exact ⟨0, Nat.zero_le _, rfl, ⟨Below.refl _ _⟩, ⟨World.ownsRow_nil _ _ _ _⟩⟩
    case round =>
      obtain ⟨k, hk, rfl, HB, HR⟩ := hrel
      by_cases hlt : k < np
      · obtain ⟨b, off, p, A1, n1, c1, rfl, hb, hx, hnm, _, h0, _, _, _⟩ := HP2.out.pc_at k hlt
        have hbc : wr.cell? ⟨bo, k, none⟩ = some (.bool (rchB ps x p.nm)) := cellk HB.out HBO.out.lt (HBO.out.cell (by rw [List.getElem?_map, hx]; rfl))
        have HT : Box (((ps.take (k + 1)).map (·.nm)).filter (rchB ps x) = ((ps.take k).map (·.nm)).filter (rchB ps x) ++ (if rchB ps x p.nm then [p.nm] else [])) := ⟨by
          rw [List.take_add_one, hx, List.map_append, List.filter_append]
          congr 1
          cases hq : rchB ps x p.nm <;> simp [hq]⟩
        replace h0 := cellk HB.out hb h0
        have HLA : Box (((((ps.take k).map (·.nm)).filter (rchB ps x)).length + 1) * 16 ≤ 140737488355328) := ⟨by
          have h1 := List.length_filter_le (rchB ps x) ((ps.take k).map (·.nm))
          rw [List.length_map, List.length_take] at h1
          omega⟩
        have HBS := Box.mk HB.out.size
        clear hx hnm hb
        generalize p.nm = y at *
        generalize hq : rchB ps x y = q at *
        cases q
        · rw [if_neg (by simp), List.append_nil] at HT
          go_wp2_with fail
          go_roundw
          case rel => exact ⟨k + 1, by omega, by go_num, HB, by rw [HT.out]; exact HR⟩
          case measure => simp [intOf] <;> omega
        · rw [if_pos rfl] at HT
          go_wp2_with (at_builtin; refine wpL_app _ w2.heap.size rfl _ _ 23 9 rfl (.string ByteArray.empty) 1 16 Try.underlying23 info_str rfl (by decide) (by decide) u10 _ _ rfl (HR.out.alloc _) (some ⟨_, 0, none⟩) 1 1 [.string y] rfl (src_at _ _ _ _ (by simp) rfl) HLA.out (Nat.le_trans HBS.out (bel_alloc _ _).size) ?_; intro v10' wa ho10 hg10 hat10; have HBa := Box.mk ((bel_alloc2 HB.out _).grown hg10 (Nat.le_trans HBS.out (bel_alloc _ _).size) (fun q hq => (HR.out.lt q hq).1)); have HO10 := Box.mk ho10; clear ho10 hg10 hat10)
          go_roundw
          case rel => exact ⟨k + 1, by omega, by go_num, HBa, ⟨by rw [HT.out, List.map_append, List.length_append]; exact HO10.out⟩⟩
          case measure => simp [intOf] <;> omega
      · obtain rfl : k = np := by omega
        have e : (ps.take k).map (·.nm) = ps.map (·.nm) := by rw [List.take_of_length_le (by rw [← HNP.out]; exact Nat.le_refl _)]
        rw [e] at HR
        have e2 : (ps.map (·.nm)).filter (rchB ps x) = rchL ps x := rfl
        rw [e2] at HR
        have hrl : (rchL ps x).length ≤ 100 := by
          unfold rchL
          have := List.length_filter_le (rchB ps x) (ps.map (·.nm))
          rw [List.length_map, ← HNP.out] at this
          omega
        have hsz : ∀ y ∈ rchL ps x, y.size ≤ LIM := fun y hy => HSZ.out y (mem_rchL.1 hy).1
        obtain ⟨B', c', e', hS⟩ := own_strs HR.out hsz (by rw [LIM_eq]; omega)
        have HSS := Box.mk hS
        have HSZ2 := Box.mk hsz
        subst e'
        clear hS hsz HR e e2
        go_wp2_with fail
        refine (r_set B' _ c' (rchL ps x) wr HSS.out HSZ2.out (by omega)).mono ?_
        rintro e w4 ⟨A', c'', rfl, hs4, hb4⟩
        have HS4 := Box.mk hs4
        have HB4 := Box.mk (below_tr (below_tr HB2.out HB2.out.size HB.out) (by have := HB2.out.size; have := HB.out.size; omega) hb4)
        clear hs4 hb4
        go_wp2_with fail
        go_ret2
        rw [HO.out]
        exact ⟨_, _, rfl, HS4.out, HB4.out⟩
  · have HO : Box (rea ms x = ([], opf ms x)) := ⟨by simp [rea, h0]⟩
    have h0' : (opf ms x != 0) = true := by simpa using h0
    clear hv
    generalize opf ms x = V at *
    go_wp2_with fail
    go_ret2
    rw [HO.out]
    exact ⟨_, _, rfl, slr_nil _ _ _ _ _, HB1.out⟩
end Go.Proofs.Ytchhjldopecliaa
namespace Go.Proofs.Ytchhjldopecliaa
open Go.RowKit

/-- A slice that is read in blocks that are ok. -/
def SlO (ok : Nat → Prop) {α : Type} (w : World) (sz : Nat) (R : World → α → List Value → Prop) (A : Option Addr) (n c : Nat) (xs : List α) : Prop :=
  xs.length = n ∧ n ≤ c ∧ n ≤ LIM ∧
    (0 < n → ∃ b off, A = some ⟨b, off, none⟩ ∧ b < w.heap.size ∧ ok b ∧
      ∀ i x, xs[i]? = some x → ∃ cs, cs.length = sz ∧ R w x cs ∧ ∀ j u, cs[j]? = some u → w.cell? ⟨b, off + i * sz + j, none⟩ = some u)
/-- How a reading lives on when a block turns that is not ok; when more blocks are ok; that it is a reading. -/
structure RdO {α : Type} (R : World → α → List Value → Prop) (RO : (Nat → Prop) → World → α → List Value → Prop) : Prop where
  kept : ∀ {ok : Nat → Prop} {w w' : World} {row : Option Nat} {x : α} {cs : List Value}, RO ok w x cs → w.grownBy w' row → (∀ b, row = some b → ¬ ok b) → RO ok w' x cs
  weak : ∀ {ok ok' : Nat → Prop} {w : World} {x : α} {cs : List Value}, RO ok w x cs → (∀ b, b < w.heap.size → ok b → ok' b) → RO ok' w x cs
  rd : ∀ {ok : Nat → Prop} {w : World} {x : α} {cs : List Value}, RO ok w x cs → R w x cs
def RStrO : (Nat → Prop) → World → Str → List Value → Prop := fun _ => RStr
def RIntO : (Nat → Prop) → World → Int → List Value → Prop := fun _ => RInt
theorem rdStr : RdO RStr RStrO := ⟨fun h _ _ => h, fun h _ => h, fun h => h⟩
theorem rdInt : RdO RInt RIntO := ⟨fun h _ _ => h, fun h _ => h, fun h => h⟩

section
variable {α : Type} {R : World → α → List Value → Prop} {RO : (Nat → Prop) → World → α → List Value → Prop} {ok ok' : Nat → Prop} {w w' : World} {sz n c : Nat} {A : Option Addr} {xs : List α}
theorem SlO.kept (hR : RdO R RO) (h : SlO ok w sz (RO ok) A n c xs) {row : Option Nat} (hg : w.grownBy w' row) (hne : ∀ b, row = some b → ¬ ok b) : SlO ok w' sz (RO ok) A n c xs := by
  obtain ⟨h1, h2, h3, h4⟩ := h
  refine ⟨h1, h2, h3, fun hn => ?_⟩
  obtain ⟨b, off, e, hlt, hok, hc⟩ := h4 hn
  refine ⟨b, off, e, Nat.lt_of_lt_of_le hlt hg.size, hok, fun i x hx => ?_⟩
  obtain ⟨cs, hl, hr, hcell⟩ := hc i x hx
  refine ⟨cs, hl, hR.kept hr hg hne, fun j u hu => hg.cell (hcell j u hu) (fun e => ?_)⟩
  exact hne b e.symm hok
theorem SlO.weak (hR : RdO R RO) (h : SlO ok w sz (RO ok) A n c xs) (hw : ∀ b, b < w.heap.size → ok b → ok' b) : SlO ok' w sz (RO ok') A n c xs := by
  obtain ⟨h1, h2, h3, h4⟩ := h
  refine ⟨h1, h2, h3, fun hn => ?_⟩
  obtain ⟨b, off, e, hlt, hok, hc⟩ := h4 hn
  refine ⟨b, off, e, hlt, hw b hlt hok, fun i x hx => ?_⟩
  obtain ⟨cs, hl, hr, hcell⟩ := hc i x hx
  exact ⟨cs, hl, hR.weak hr hw, hcell⟩
theorem SlO.rd (hR : RdO R RO) (h : SlO ok w sz (RO ok) A n c xs) : SlR w sz R A n c xs := by
  obtain ⟨h1, h2, h3, h4⟩ := h
  refine ⟨h1, h2, h3, fun hn => ?_⟩
  obtain ⟨b, off, e, hlt, hok, hc⟩ := h4 hn
  refine ⟨b, off, e, hlt, fun i x hx => ?_⟩
  obtain ⟨cs, hl, hr, hcell⟩ := hc i x hx
  exact ⟨cs, hl, hR.rd hr, hcell⟩
/-- What lay before a world is ok wherever all that lay before is. -/
theorem SlR.toO {R1 : World → α → List Value → Prop} (h : SlR w sz R A n c xs) (hR : ∀ x cs, R w x cs → R1 w x cs) (hok : ∀ b, b < w.heap.size → ok b) : SlO ok w sz R1 A n c xs := by
  obtain ⟨h1, h2, h3, h4⟩ := h
  refine ⟨h1, h2, h3, fun hn => ?_⟩
  obtain ⟨b, off, e, hlt, hc⟩ := h4 hn
  refine ⟨b, off, e, hlt, hok b hlt, fun i x hx => ?_⟩
  obtain ⟨cs, hl, hr, hcell⟩ := hc i x hx
  exact ⟨cs, hl, hR _ _ hr, hcell⟩
end

def RSlO {α : Type} (sz : Nat) (RO : (Nat → Prop) → World → α → List Value → Prop) : (Nat → Prop) → World → List α → List Value → Prop :=
  fun ok w xs cs => ∃ A n c, cs = [.slice A n c] ∧ SlO ok w sz (RO ok) A n c xs
theorem rdSl {α : Type} {sz : Nat} {R : World → α → List Value → Prop} {RO : (Nat → Prop) → World → α → List Value → Prop} (hR : RdO R RO) : RdO (RSl sz R) (RSlO sz RO) := by
  refine ⟨fun {ok w w' row x cs} h hg hne => ?_, fun {ok ok' w x cs} h hw => ?_, fun {ok w x cs} h => ?_⟩
  · obtain ⟨A, n, c, e, h⟩ := h
    exact ⟨A, n, c, e, h.kept hR hg hne⟩
  · obtain ⟨A, n, c, e, h⟩ := h
    exact ⟨A, n, c, e, h.weak hR hw⟩
  · obtain ⟨A, n, c, e, h⟩ := h
    exact ⟨A, n, c, e, h.rd hR⟩
def RMdO : (Nat → Prop) → World → Md → List Value → Prop := fun ok w m cs => ∃ A1 n1 c1 A2 n2 c2 A3 n3 c3, cs = [.string m.nm, .int .i64 m.ov, .slice A1 n1 c1, .slice A2 n2 c2, .slice A3 n3 c3] ∧
  m.nm.size ≤ LIM ∧ SlO ok w 1 (RStrO ok) A1 n1 c1 m.pr ∧ SlO ok w 1 (RIntO ok) A2 n2 c2 m.sz ∧ SlO ok w 1 (RSlO 1 RStrO ok) A3 n3 c3 m.cl
theorem rdMd : RdO RMd RMdO := by
  refine ⟨fun {ok w w' row x cs} h hg hne => ?_, fun {ok ok' w x cs} h hw => ?_, fun {ok w x cs} h => ?_⟩
  · obtain ⟨A1, n1, c1, A2, n2, c2, A3, n3, c3, e, h0, h1, h2, h3⟩ := h
    exact ⟨A1, n1, c1, A2, n2, c2, A3, n3, c3, e, h0, h1.kept rdStr hg hne, h2.kept rdInt hg hne, h3.kept (rdSl rdStr) hg hne⟩
  · obtain ⟨A1, n1, c1, A2, n2, c2, A3, n3, c3, e, h0, h1, h2, h3⟩ := h
    exact ⟨A1, n1, c1, A2, n2, c2, A3, n3, c3, e, h0, h1.weak rdStr hw, h2.weak rdInt hw, h3.weak (rdSl rdStr) hw⟩
  · obtain ⟨A1, n1, c1, A2, n2, c2, A3, n3, c3, e, h0, h1, h2, h3⟩ := h
    exact ⟨A1, n1, c1, A2, n2, c2, A3, n3, c3, e, h0, h1.rd rdStr, h2.rd rdInt, h3.rd (rdSl rdStr)⟩
theorem RSl.toO {w : World} {ok : Nat → Prop} {xs : List Str} {cs : List Value} (h : RSl 1 RStr w xs cs) (hok : ∀ b, b < w.heap.size → ok b) : RSlO 1 RStrO ok w xs cs := by
  obtain ⟨A, n, c, e, h⟩ := h
  exact ⟨A, n, c, e, h.toO (fun _ _ h => h) hok⟩
theorem RMd.toO {w : World} {ok : Nat → Prop} {m : Md} {cs : List Value} (h : RMd w m cs) (hok : ∀ b, b < w.heap.size → ok b) : RMdO ok w m cs := by
  obtain ⟨A1, n1, c1, A2, n2, c2, A3, n3, c3, e, h0, h1, h2, h3⟩ := h
  exact ⟨A1, n1, c1, A2, n2, c2, A3, n3, c3, e, h0, h1.toO (fun _ _ h => h) hok, h2.toO (fun _ _ h => h) hok, h3.toO (fun _ _ h => RSl.toO h hok) hok⟩

/-- A row of one's own whose elements are read in blocks that are ok. -/
def OwnO {α : Type} (ok : Nat → Prop) (w : World) (base : Nat) (e : TypeId) (sz : Nat) (RO : (Nat → Prop) → World → α → List Value → Prop) (v : Value) (xs : List α) : Prop :=
  ∃ css : List (List Value), w.ownsRow base e sz v xs.length css.flatten ∧ (∀ cs ∈ css, cs.length = sz) ∧ css.length = xs.length ∧ ∀ (i : Nat) (x : α) (cs : List Value), xs[i]? = some x → css[i]? = some cs → RO ok w x cs
section
variable {α : Type} {R : World → α → List Value → Prop} {RO : (Nat → Prop) → World → α → List Value → Prop} {ok ok' : Nat → Prop} {w w' : World} {base sz : Nat} {e : TypeId} {v : Value} {xs : List α}
theorem OwnO.nil : OwnO ok w base e sz RO (.slice none 0 0) ([] : List α) := ⟨[], World.ownsRow_nil _ _ _ _, by simp, rfl, by simp⟩
theorem OwnO.lt (h : OwnO ok w base e sz RO v xs) : ∀ B, v.ownBlock = some B → base ≤ B ∧ B < w.heap.size := by
  obtain ⟨css, h1, _⟩ := h
  exact h1.lt
theorem OwnO.kept (hR : RdO R RO) (h : OwnO ok w base e sz RO v xs) {row : Option Nat} (hg : w.grownBy w' row) (hv : v.ownBlock = none ∨ v.ownBlock ≠ row) (hne : ∀ b, row = some b → ¬ ok b) : OwnO ok w' base e sz RO v xs := by
  obtain ⟨css, h1, h2, h3, h4⟩ := h
  exact ⟨css, h1.kept hg hv, h2, h3, fun i x cs hx hc => hR.kept (h4 i x cs hx hc) hg hne⟩
theorem OwnO.weak (hR : RdO R RO) (h : OwnO ok w base e sz RO v xs) (hw : ∀ b, b < w.heap.size → ok b → ok' b) : OwnO ok' w base e sz RO v xs := by
  obtain ⟨css, h1, h2, h3, h4⟩ := h
  exact ⟨css, h1, h2, h3, fun i x cs hx hc => hR.weak (h4 i x cs hx hc) hw⟩
theorem OwnO.alloc (hR : RdO R RO) (h : OwnO ok w base e sz RO v xs) (o : Obj) : OwnO ok (w.alloc o) base e sz RO v xs :=
  h.kept hR (World.grownBy_alloc w o none) (by cases v.ownBlock <;> simp) (fun b e => by cases e)
theorem OwnO.below (hR : RdO R RO) (h : OwnO ok w base e sz RO v xs) (hb : Below w.heap.size w w') : OwnO ok w' base e sz RO v xs :=
  h.kept hR (below_gb hb none) (by cases v.ownBlock <;> simp) (fun b e => by cases e)
/-- What the row is, for an append; and the row with one more. -/
theorem OwnO.opened (hR : RdO R RO) (h : OwnO ok w base e sz RO v xs) : ∃ flat, w.ownsRow base e sz v xs.length flat ∧
    ∀ (w1 : World) (v1 : Value) (x : α) (cs : List Value), cs.length = sz → RO ok w x cs → w1.ownsRow base e sz v1 (xs.length + 1) (flat ++ cs) → w.grownBy w1 v.ownBlock → (∀ b, v.ownBlock = some b → ¬ ok b) → OwnO ok w1 base e sz RO v1 (xs ++ [x]) := by
  obtain ⟨css, h1, h2, h3, h4⟩ := h
  refine ⟨css.flatten, h1, fun w1 v1 x cs hc hx ho hg hne => ⟨css ++ [cs], ?_, ?_, by simp [h3], ?_⟩⟩
  · rw [List.flatten_append, List.length_append]
    simpa using ho
  · intro c hcc
    rcases List.mem_append.1 hcc with hcc | hcc
    · exact h2 c hcc
    · obtain rfl : c = cs := by simpa using hcc
      exact hc
  · intro i y c hy hcc
    refine hR.kept ?_ hg hne
    by_cases hi : i < xs.length
    · rw [List.getElem?_append_left hi] at hy
      rw [List.getElem?_append_left (by omega)] at hcc
      exact h4 i y c hy hcc
    · rw [List.getElem?_append_right (by omega)] at hy
      rw [List.getElem?_append_right (by omega), h3] at hcc
      cases hk : i - xs.length with
      | zero =>
        rw [hk] at hy hcc
        obtain rfl : x = y := by simpa using hy
        obtain rfl : cs = c := by simpa using hcc
        exact hx
      | succ q => rw [hk] at hy; simp at hy
theorem OwnO.slO (hR : RdO R RO) (h : OwnO ok w base e sz RO v xs) (hl : xs.length ≤ LIM) (hok : ∀ b, b < w.heap.size → ok b → ok' b) (hv : ∀ b, v.ownBlock = some b → ok' b) : ∃ A c, v = .slice A xs.length c ∧ SlO ok' w sz (RO ok') A xs.length c xs := by
  obtain ⟨css, ho, hcs, hlen, hx⟩ := h
  rcases ho.2 with ⟨rfl, h0⟩ | ⟨g, cap, cur, rfl, hbb, hg, hnc, hcm, hsz, ht⟩
  · refine ⟨none, 0, by rw [h0], rfl, by omega, hl, fun hn => by omega⟩
  · refine ⟨_, cap, rfl, rfl, hnc, hl, fun _ => ⟨g, 0, rfl, (Array.getElem?_eq_some_iff.1 hg).1, hv g rfl, fun i x hxi => ?_⟩⟩
    have hi : i < css.length := by rw [hlen]; exact (List.getElem?_eq_some_iff.1 hxi).1
    refine ⟨css[i], hcs _ (List.getElem_mem hi), hR.weak (hx i x _ hxi (List.getElem?_eq_getElem hi)) hok, fun j u hu => ?_⟩
    have hfl := flatten_get hcs (List.getElem?_eq_getElem hi) hu
    have := ho.cells (g := g) rfl (i * sz + j) u hfl
    have ha : (⟨g, 0, none⟩ : Addr).add (i * sz + j) = ⟨g, 0 + i * sz + j, none⟩ := by unfold Addr.add; split <;> simp_all
    rwa [ha] at this
theorem OwnO.slr (hR : RdO R RO) (h : OwnO ok w base e sz RO v xs) (hl : xs.length ≤ LIM) : ∃ A c, v = .slice A xs.length c ∧ SlR w sz R A xs.length c xs := by
  obtain ⟨A, c, e, hs⟩ := h.slO hR hl (ok' := fun _ => True) (fun _ _ _ => trivial) (fun _ _ => trivial)
  exact ⟨A, c, e, hs.rd hR⟩
end
/-- A row of texts of one's own. -/
theorem own_strsO {w : World} {base : Nat} {e : TypeId} {v : Value} {xs : List Str} {ok : Nat → Prop} (h : w.ownsRow base e 1 v xs.length (xs.map Value.string)) (hs : ∀ x ∈ xs, x.size ≤ LIM) (hl : xs.length ≤ LIM) (hok : ∀ b, v.ownBlock = some b → ok b) :
    ∃ A c, v = .slice A xs.length c ∧ SlO ok w 1 (RStrO ok) A xs.length c xs := by
  obtain ⟨A, c, e, h1, h2, h3, h4⟩ := own_strs h hs hl
  refine ⟨A, c, e, h1, h2, h3, fun hn => ?_⟩
  obtain ⟨b, off, e2, hlt, hc⟩ := h4 hn
  exact ⟨b, off, e2, hlt, hok b (by rw [e, e2]; rfl), hc⟩
theorem own_intsO {w : World} {base : Nat} {e : TypeId} {v : Value} {xs : List Int} {ok : Nat → Prop} (h : w.ownsRow base e 1 v xs.length (xs.map (Value.int .i64))) (hl : xs.length ≤ LIM) (hok : ∀ b, v.ownBlock = some b → ok b) :
    ∃ A c, v = .slice A xs.length c ∧ SlO ok w 1 (RIntO ok) A xs.length c xs := by
  obtain ⟨A, c, e, h1, h2, h3, h4⟩ := own_ints h hl
  refine ⟨A, c, e, h1, h2, h3, fun hn => ?_⟩
  obtain ⟨b, off, e2, hlt, hc⟩ := h4 hn
  exact ⟨b, off, e2, hlt, hok b (by rw [e, e2]; rfl), hc⟩
end Go.Proofs.Ytchhjldopecliaa
namespace Go.Proofs.Ytchhjldopecliaa
open Go.RowKit

theorem own_empty (w : World) (e : TypeId) : (w.alloc (.cells #[] e)).ownsRow w.heap.size e 1 (.slice (some ⟨w.heap.size, 0, none⟩) 0 0) 0 [] :=
  World.ownsRow_made w #[] 0 (Nat.le_refl _) (by decide) rfl
theorem slO_nil {α : Type} {ok : Nat → Prop} {w : World} {sz : Nat} {R : World → α → List Value → Prop} {A : Option Addr} {c : Nat} : SlO ok w sz R A 0 c ([] : List α) :=
  ⟨rfl, Nat.zero_le _, Nat.zero_le _, fun h => absurd h (Nat.lt_irrefl 0)⟩
theorem src_ints {w : World} {A : Option Addr} {n c : Nat} {xs : List Int} (h : SlR w 1 RInt A n c xs) : Src w A n 1 (xs.map (Value.int .i64)) := by
  refine ⟨by simp [h.len], fun hn => ?_, by simp; intro _ _; rfl⟩
  obtain ⟨b, off, x, e, _⟩ := h.int_at 0 hn
  refine ⟨_, e, fun j u hu => ?_⟩
  have hj : j < n := by
    have := (List.getElem?_eq_some_iff.1 hu).1
    rw [List.length_map, h.len] at this
    exact this
  obtain ⟨b', off', x', e', _, hx, hc⟩ := h.int_at j hj
  rw [e] at e'
  injection e' with e'
  injection e' with e1 e2
  subst e1 e2
  rw [List.getElem?_map, hx] at hu
  injection hu with hu
  subst hu
  have ha : (⟨b, off, none⟩ : Addr).add j = ⟨b, off + j, none⟩ := by unfold Addr.add; split <;> simp_all
  rw [ha]
  exact hc
/-- The cells of a slice of slices of texts. -/
theorem src_sls {w : World} {A : Option Addr} {n c : Nat} {xs : List (List Str)} (h : SlR w 1 (RSl 1 RStr) A n c xs) :
    ∃ vs : List Value, vs.length = n ∧ Src w A n 1 vs ∧ ∀ (i : Nat) (v : Value), vs[i]? = some v → ∃ A' n' c' x, v = .slice A' n' c' ∧ xs[i]? = some x ∧ SlR w 1 RStr A' n' c' x := by
  have h1 : ∀ i, i < n → ∃ v, (∃ A' n' c' x, v = Value.slice A' n' c' ∧ xs[i]? = some x ∧ SlR w 1 RStr A' n' c' x) ∧ ∃ b off, A = some ⟨b, off, none⟩ ∧ w.cell? ⟨b, off + i, none⟩ = some v := by
    intro i hi
    obtain ⟨b, off, x, A', n', c', e, hb, hx, hc, hs⟩ := h.sl_at i hi
    exact ⟨_, ⟨A', n', c', x, rfl, hx, hs⟩, b, off, e, hc⟩
  obtain ⟨vs, hl, hv⟩ := list_of h1
  refine ⟨vs, hl, ⟨by simp [hl], fun hn => ?_, fun u hu => ?_⟩, fun i v hiv => (hv i v hiv).1⟩
  · obtain ⟨v, hv0⟩ : ∃ v, vs[0]? = some v := ⟨_, List.getElem?_eq_getElem (by omega)⟩
    obtain ⟨_, b, off, e, _⟩ := hv 0 v hv0
    refine ⟨_, e, fun j u hu => ?_⟩
    obtain ⟨_, b', off', e', hc⟩ := hv j u hu
    rw [e] at e'
    injection e' with e'
    injection e' with e1 e2
    subst e1 e2
    have ha : (⟨b, off, none⟩ : Addr).add j = ⟨b, off + j, none⟩ := by unfold Addr.add; split <;> simp_all
    rw [ha]
    exact hc
  · obtain ⟨i, hi⟩ := List.mem_iff_getElem?.1 hu
    obtain ⟨⟨A', n', c', x, rfl, _⟩, _⟩ := hv i u hi
    rfl

theorem info_i : (Try.prog.info? 3).map (fun i => (i.zero, i.size, i.bytes)) = some (some (.int .i64 0), 1, 8) := by kernel_rfl
theorem info_sl : (Try.prog.info? 23).map (fun i => (i.zero, i.size, i.bytes)) = some (some (.slice none 0 0), 1, 24) := by kernel_rfl
theorem eqn23 (c : Nat) (W : World) : (binOp .eql 23 (.slice none 0 c) (.slice none 0 0)).run Try.prog W = .ok (.bool true) W := by kernel_rfl
theorem eqs23 (a : Addr) (n c : Nat) (W : World) : (binOp .eql 23 (.slice (some a) n c) (.slice none 0 0)).run Try.prog W = .ok (.bool false) W := by kernel_rfl
theorem eqn30 (c : Nat) (W : World) : (binOp .eql 30 (.slice none 0 c) (.slice none 0 0)).run Try.prog W = .ok (.bool true) W := by kernel_rfl
theorem eqs30 (a : Addr) (n c : Nat) (W : World) : (binOp .eql 30 (.slice (some a) n c) (.slice none 0 0)).run Try.prog W = .ok (.bool false) W := by kernel_rfl
theorem eqn31 (c : Nat) (W : World) : (binOp .eql 31 (.slice none 0 c) (.slice none 0 0)).run Try.prog W = .ok (.bool true) W := by kernel_rfl
theorem eqs31 (a : Addr) (n c : Nat) (W : World) : (binOp .eql 31 (.slice (some a) n c) (.slice none 0 0)).run Try.prog W = .ok (.bool false) W := by kernel_rfl

set_option maxRecDepth 100000 in
set_option maxHeartbeats 1000000 in
theorem c_CloneStr (A : Option Addr) (n c : Nat) (xs : List Str) (w : World) (h : SlR w 1 RStr A n c xs) (hn : n ≤ 1000000) :
    Calls Try.prog 69 #[.slice A n c] w fun e w' => ∃ A' c', e = .returned (.slice A' n c') ∧ SlO (fun b => w.heap.size ≤ b) w' 1 (RStrO (fun b => w.heap.size ≤ b)) A' n c' xs ∧ Below w.heap.size w w' := by
  have H := Box.mk h
  cases A with
  | none =>
    have h0 : n = 0 := by
      rcases Nat.eq_zero_or_pos n with h0 | h0
      · exact h0
      · obtain ⟨b, off, x, e, _⟩ := h.str_at 0 h0
        cases e
    subst h0
    have hx : xs = [] := List.eq_nil_of_length_eq_zero h.len
    subst hx
    clear h
    have he := eqn23 c
    go_enter Try.func69, Try.ntmps69
    go_wp2_with fail
    go_ret
    exact ⟨none, 0, rfl, slO_nil, Below.refl _ _⟩
  | some a =>
    have HS := Box.mk (src_strs (h.below mono_str (bel_alloc w (.cells #[] 9))))
    have HO := Box.mk (own_empty w 9)
    have HZ : Box (∀ x ∈ xs, x.size ≤ LIM) := ⟨fun x hx => by
      obtain ⟨i, hi⟩ := List.mem_iff_getElem?.1 hx
      have hil := (List.getElem?_eq_some_iff.1 hi).1
      rw [h.len] at hil
      obtain ⟨b, off, x', e, _, hx', hs, _⟩ := h.str_at i hil
      rw [hi] at hx'
      injection hx' with hx'
      subst hx'
      exact hs⟩
    have HL := Box.mk h.len
    clear h
    have he := eqs23 a n c
    go_enter Try.func69, Try.ntmps69
    go_wp2_with (at_builtin; refine wpL_app _ w.heap.size rfl _ _ 23 9 rfl (.string ByteArray.empty) 1 16 Try.underlying23 info_str rfl (by decide) (by decide) (.slice (some ⟨w.heap.size, 0, none⟩) 0 0) 0 [] rfl HO.out (some a) n c (xs.map Value.string) rfl HS.out (by omega) (bel_alloc _ _).size ?_; intro v' wa ho hg hat)
    go_ret
    have HBa : Below w.heap.size w wa := (bel_alloc w (.cells #[] 9)).grown hg (bel_alloc _ _).size (fun q hq => by
      have : w.heap.size = q := by simpa [Value.ownBlock] using hq
      omega)
    rw [Nat.zero_add, List.nil_append, ← HL.out] at ho
    obtain ⟨A', c', e', hs⟩ := own_strsO (ok := fun b => w.heap.size ≤ b) ho HZ.out (by rw [HL.out, LIM_eq]; omega) (fun b hb => (ho.lt b hb).1)
    rw [HL.out] at e' hs
    exact ⟨A', c', by rw [← e']; rfl, hs, HBa⟩
set_option maxRecDepth 100000 in
set_option maxHeartbeats 1000000 in
theorem c_CloneInt (A : Option Addr) (n c : Nat) (xs : List Int) (w : World) (h : SlR w 1 RInt A n c xs) (hn : n ≤ 1000000) :
    Calls Try.prog 104 #[.slice A n c] w fun e w' => ∃ A' c', e = .returned (.slice A' n c') ∧ SlO (fun b => w.heap.size ≤ b) w' 1 (RIntO (fun b => w.heap.size ≤ b)) A' n c' xs ∧ Below w.heap.size w w' := by
  have H := Box.mk h
  cases A with
  | none =>
    have h0 : n = 0 := by
      rcases Nat.eq_zero_or_pos n with h0 | h0
      · exact h0
      · obtain ⟨b, off, x, e, _⟩ := h.int_at 0 h0
        cases e
    subst h0
    have hx : xs = [] := List.eq_nil_of_length_eq_zero h.len
    subst hx
    clear h
    have he := eqn30 c
    go_enter Try.func104, Try.ntmps104
    go_wp2_with fail
    go_ret
    exact ⟨none, 0, rfl, slO_nil, Below.refl _ _⟩
  | some a =>
    have HS := Box.mk (src_ints (h.below mono_int (bel_alloc w (.cells #[] 3))))
    have HO := Box.mk (own_empty w 3)
    have HL := Box.mk h.len
    clear h
    have he := eqs30 a n c
    go_enter Try.func104, Try.ntmps104
    go_wp2_with (at_builtin; refine wpL_app _ w.heap.size rfl _ _ 30 3 rfl (.int .i64 0) 1 8 Try.underlying30 info_i rfl (by decide) (by decide) (.slice (some ⟨w.heap.size, 0, none⟩) 0 0) 0 [] rfl HO.out (some a) n c (xs.map (Value.int .i64)) rfl HS.out (by omega) (bel_alloc _ _).size ?_; intro v' wa ho hg hat)
    go_ret
    have HBa : Below w.heap.size w wa := (bel_alloc w (.cells #[] 3)).grown hg (bel_alloc _ _).size (fun q hq => by
      have : w.heap.size = q := by simpa [Value.ownBlock] using hq
      omega)
    rw [Nat.zero_add, List.nil_append, ← HL.out] at ho
    obtain ⟨A', c', e', hs⟩ := own_intsO (ok := fun b => w.heap.size ≤ b) ho (by rw [HL.out, LIM_eq]; omega) (fun b hb => (ho.lt b hb).1)
    rw [HL.out] at e' hs
    exact ⟨A', c', by rw [← e']; rfl, hs, HBa⟩
set_option maxRecDepth 100000 in
set_option maxHeartbeats 1000000 in
/-- The slices themselves are shared. -/
theorem c_CloneSl (A : Option Addr) (n c : Nat) (vs : List Value) (w : World) (hA : A = none → n = 0 ∧ vs = []) (h : Src w A n 1 vs) (hn : n ≤ 1000000) :
    Calls Try.prog 105 #[.slice A n c] w fun e w' => ∃ v', e = .returned v' ∧ w'.ownsRow w.heap.size 23 1 v' n vs ∧ Below w.heap.size w w' := by
  have H := Box.mk h
  cases A with
  | none =>
    obtain ⟨h0, hx⟩ := hA rfl
    subst h0 hx
    clear h hA
    have he := eqn31 c
    go_enter Try.func105, Try.ntmps105
    go_wp2_with fail
    go_ret
    exact ⟨.slice none 0 0, rfl, World.ownsRow_nil _ _ _ _, Below.refl _ _⟩
  | some a =>
    have HS : Box (Src (w.alloc (.cells #[] 23)) (some a) n 1 vs) := ⟨by
      obtain ⟨h1, h2, h3⟩ := h
      refine ⟨h1, fun hn => ?_, h3⟩
      obtain ⟨ad, e, hc⟩ := h2 hn
      refine ⟨ad, e, fun j u hu => ?_⟩
      have := hc j u hu
      exact (World.cell?_of_block (Below.heap_alloc _ _ _ (World.block_lt_of_cell? w _ this))).trans this⟩
    have HO := Box.mk (own_empty w 23)
    clear h hA
    have he := eqs31 a n c
    go_enter Try.func105, Try.ntmps105
    go_wp2_with (at_builtin; refine wpL_app _ w.heap.size rfl _ _ 31 23 rfl (.slice none 0 0) 1 24 Try.underlying31 info_sl rfl (by decide) (by decide) (.slice (some ⟨w.heap.size, 0, none⟩) 0 0) 0 [] rfl HO.out (some a) n c vs rfl HS.out (by omega) (bel_alloc _ _).size ?_; intro v' wa ho hg hat)
    go_ret
    have HBa : Below w.heap.size w wa := (bel_alloc w (.cells #[] 23)).grown hg (bel_alloc _ _).size (fun q hq => by
      have : w.heap.size = q := by simpa [Value.ownBlock] using hq
      omega)
    rw [Nat.zero_add, List.nil_append] at ho
    exact ⟨v', rfl, ho, HBa⟩
end Go.Proofs.Ytchhjldopecliaa
namespace Go.Proofs.Ytchhjldopecliaa
open Go.RowKit

theorem MdB.fz {w : World} {p : Nat} {nm : Str} {o : Int} {s1 s2 s3 : Value} (h : MdB w p nm o s1 s2 s3) (j : Nat) : w.frozen? ⟨p, j, none⟩ = false := by
  unfold MdB at h
  simp [World.frozen?, h]
theorem MdB.st2 {w : World} {p : Nat} {nm : Str} {o : Int} {s1 s2 s3 : Value} (h : MdB w p nm o s1 s2 s3) (u : Value) : MdB (w.setCell ⟨p, 2, none⟩ u) p nm o u s2 s3 := by
  unfold MdB at *
  simp [World.setCell, Array.getElem?_modify, h]
theorem MdB.st3 {w : World} {p : Nat} {nm : Str} {o : Int} {s1 s2 s3 : Value} (h : MdB w p nm o s1 s2 s3) (u : Value) : MdB (w.setCell ⟨p, 3, none⟩ u) p nm o s1 u s3 := by
  unfold MdB at *
  simp [World.setCell, Array.getElem?_modify, h]
theorem MdB.st4 {w : World} {p : Nat} {nm : Str} {o : Int} {s1 s2 s3 : Value} (h : MdB w p nm o s1 s2 s3) (u : Value) : MdB (w.setCell ⟨p, 4, none⟩ u) p nm o s1 s2 u := by
  unfold MdB at *
  simp [World.setCell, Array.getElem?_modify, h]
theorem st_cell (w : World) (p j : Nat) (u : Value) : w.grownBy (w.setCell ⟨p, j, none⟩ u) (some p) :=
  ⟨rfl, rfl, rfl, by simp [World.setCell], fun i hi hne => by
    have hne' : p ≠ i := fun e => hne (by rw [e])
    simp [World.setCell, Array.getElem?_modify, hne']⟩
theorem MdB.all {w : World} {p : Nat} {nm nm' : Str} {o o' : Int} {s1 s2 s3 s1' s2' s3' : Value} (h : MdB w p nm o s1 s2 s3) :
    MdB (((((w.setCell ⟨p, 0, none⟩ (.string nm')).setCell ⟨p, 1, none⟩ (.int .i64 o')).setCell ⟨p, 2, none⟩ s1').setCell ⟨p, 3, none⟩ s2').setCell ⟨p, 4, none⟩ s3') p nm' o' s1' s2' s3' ∧
      w.grownBy (((((w.setCell ⟨p, 0, none⟩ (.string nm')).setCell ⟨p, 1, none⟩ (.int .i64 o')).setCell ⟨p, 2, none⟩ s1').setCell ⟨p, 3, none⟩ s2').setCell ⟨p, 4, none⟩ s3') (some p) := by
  refine ⟨?_, grown_tr (grown_tr (grown_tr (grown_tr (st_cell w p 0 _) (st_cell _ p 1 _)) (st_cell _ p 2 _)) (st_cell _ p 3 _)) (st_cell _ p 4 _)⟩
  unfold MdB at *
  simp [World.setCell, Array.getElem?_modify, h]
theorem MdB.kp {w w' : World} {row : Option Nat} {p : Nat} {nm : Str} {o : Int} {s1 s2 s3 : Value} (h : MdB w p nm o s1 s2 s3) (hg : w.grownBy w' row) (hne : some p ≠ row) : MdB w' p nm o s1 s2 s3 := (hg.block p h.lt hne).trans h

theorem own_store {w : World} {base g n c j : Nat} {e : TypeId} {vs : List Value} (h : w.ownsRow base e 1 (.slice (some ⟨g, 0, none⟩) n c) n vs) (u : Value) (hj : j < n) :
    (w.setCell ⟨g, j, none⟩ u).ownsRow base e 1 (.slice (some ⟨g, 0, none⟩) n c) n (vs.set j u) ∧ w.grownBy (w.setCell ⟨g, j, none⟩ u) (some g) ∧ w.frozen? ⟨g, j, none⟩ = false ∧ (w.cell? ⟨g, j, none⟩).isSome = true := by
  rcases h.2 with ⟨h0, _⟩ | ⟨g', cap, cur, e1, hb, hg, hnc, hcm, hcs, ht⟩
  · cases h0
  · injection e1 with e1 _ e2
    injection e1 with e1
    injection e1 with e1
    subst e1 e2
    refine ⟨⟨by rw [List.length_set]; exact h.1, .inr ⟨g, c, cur.setIfInBounds j u, rfl, hb, ?_, hnc, hcm, by simpa using hcs, ?_⟩⟩, ⟨rfl, rfl, rfl, by simp [World.setCell], fun i hi hne => ?_⟩, by simp [World.frozen?, hg], ?_⟩
    · simp [World.setCell, Array.getElem?_modify, hg]
    · rw [Array.toList_setIfInBounds, List.take_set, ht]
    · have hne' : g ≠ i := fun e => hne (by rw [e])
      simp [World.setCell, Array.getElem?_modify, hne']
    · simp only [World.cell?, hg]
      simp
      omega

theorem cell_of_own {w : World} {base g n c j : Nat} {e : TypeId} {vs : List Value} {u : Value} (h : w.ownsRow base e 1 (.slice (some ⟨g, 0, none⟩) n c) n vs) (hu : vs[j]? = some u) : w.cell? ⟨g, j, none⟩ = some u := by
  have := h.cells (g := g) rfl j u hu
  rwa [addr_addq, Nat.zero_add] at this
theorem Src.below {w w' : World} {A : Option Addr} {m sz : Nat} {news : List Value} (h : Src w A m sz news) (hb : Below w.heap.size w w') : Src w' A m sz news := by
  obtain ⟨h1, h2, h3⟩ := h
  refine ⟨h1, fun hm => ?_, h3⟩
  obtain ⟨ad, e, hc⟩ := h2 hm
  refine ⟨ad, e, fun j u hu => ?_⟩
  have := hc j u hu
  exact (World.cell?_of_block (hb.block _ (World.block_lt_of_cell? w _ this))).trans this

/-- Slices of texts, some of which have been cloned. -/
structure ClI (w : World) (base : Nat) (wr : World) (v : Value) (n : Nat) (xs : List (List Str)) (j : Nat) (vs : List Value) : Prop where
  own : wr.ownsRow base 23 1 v n vs
  len : xs.length = n
  rest : ∀ i, j ≤ i → i < n → ∃ A' n' c' x, vs[i]? = some (.slice A' n' c') ∧ xs[i]? = some x ∧ SlR w 1 RStr A' n' c' x
  done : ∀ i, i < j → ∃ A' n' c' x, vs[i]? = some (.slice A' n' c') ∧ xs[i]? = some x ∧ SlO (fun b => base ≤ b ∧ some b ≠ v.ownBlock) wr 1 (RStrO (fun b => base ≤ b ∧ some b ≠ v.ownBlock)) A' n' c' x

theorem ClI.kept {w wr w' : World} {base n j : Nat} {v : Value} {xs : List (List Str)} {vs : List Value} {p : Nat} (h : ClI w base wr v n xs j vs) (hg : wr.grownBy w' (some p)) (hv : v.ownBlock = none ∨ v.ownBlock ≠ some p) (hp : p < base) : ClI w base w' v n xs j vs :=
  ⟨h.own.kept hg hv, h.len, h.rest, fun i hi => by
    obtain ⟨A', n', c', x, h1, h2, h3⟩ := h.done i hi
    exact ⟨A', n', c', x, h1, h2, h3.kept rdStr hg (fun b e => by injection e with e; subst e; exact fun h => Nat.not_lt_of_le h.1 hp)⟩⟩

set_option maxRecDepth 100000 in
set_option maxHeartbeats 4000000 in
theorem c_cloned (m : Md) (A1 : Option Addr) (n1 c1 : Nat) (A2 : Option Addr) (n2 c2 : Nat) (A3 : Option Addr) (n3 c3 : Nat) (w : World) (h : MdIs w m A1 n1 c1 A2 n2 c2 A3 n3 c3) (hn1 : n1 ≤ 1000000) (hn2 : n2 ≤ 1000000) (hn3 : n3 ≤ 1000000) (hcl : ∀ l ∈ m.cl, l.length ≤ 1000000) :
    Calls Try.prog 71 #[.agg #[.string m.nm, .int .i64 m.ov, .slice A1 n1 c1, .slice A2 n2 c2, .slice A3 n3 c3]] w fun e w' => ∃ B1 d1 B2 d2 B3 d3, e = .returned (.agg #[.string m.nm, .int .i64 m.ov, .slice B1 n1 d1, .slice B2 n2 d2, .slice B3 n3 d3]) ∧
      SlO (fun b => w.heap.size ≤ b) w' 1 (RStrO (fun b => w.heap.size ≤ b)) B1 n1 d1 m.pr ∧ SlO (fun b => w.heap.size ≤ b) w' 1 (RIntO (fun b => w.heap.size ≤ b)) B2 n2 d2 m.sz ∧ SlO (fun b => w.heap.size ≤ b) w' 1 (RSlO 1 RStrO (fun b => w.heap.size ≤ b)) B3 n3 d3 m.cl ∧ Below w.heap.size w w' := by
  have H := Box.mk h
  have HCL := Box.mk hcl
  clear h hcl
  go_enter Try.func71, Try.ntmps71
  have HM0 : Box (MdB ((w.alloc (.cells #[.string m.nm, .int .i64 m.ov, .slice A1 n1 c1, .slice A2 n2 c2, .slice A3 n3 c3] 33)).alloc (.cells #[.string ⟨#[]⟩, .int .i64 0, .slice none 0 0, .slice none 0 0, .slice none 0 0] 33)) w.heap.size m.nm m.ov (.slice A1 n1 c1) (.slice A2 n2 c2) (.slice A3 n3 c3)) := ⟨(Below.heap_alloc _ _ _ (by simp)).trans (heap_alloc_new w _)⟩
  have HB0 : Box (Below w.heap.size w ((w.alloc (.cells #[.string m.nm, .int .i64 m.ov, .slice A1 n1 c1, .slice A2 n2 c2, .slice A3 n3 c3] 33)).alloc (.cells #[.string ⟨#[]⟩, .int .i64 0, .slice none 0 0, .slice none 0 0, .slice none 0 0] 33))) := ⟨bel_alloc2 (bel_alloc w _) _⟩
  have HZ0 : Box (((w.alloc (.cells #[.string m.nm, .int .i64 m.ov, .slice A1 n1 c1, .slice A2 n2 c2, .slice A3 n3 c3] 33)).alloc (.cells #[.string ⟨#[]⟩, .int .i64 0, .slice none 0 0, .slice none 0 0, .slice none 0 0] 33)).heap[w.heap.size + 1]? = some (.cells #[.string ⟨#[]⟩, .int .i64 0, .slice none 0 0, .slice none 0 0, .slice none 0 0] 33 (0, 0))) := ⟨by
    have e : w.heap.size + 1 = (w.alloc (.cells #[.string m.nm, .int .i64 m.ov, .slice A1 n1 c1, .slice A2 n2 c2, .slice A3 n3 c3] 33)).heap.size := by simp
    rw [e, heap_alloc_new]⟩
  have HW0 : Box (((w.alloc (.cells #[.string m.nm, .int .i64 m.ov, .slice A1 n1 c1, .slice A2 n2 c2, .slice A3 n3 c3] 33)).alloc (.cells #[.string ⟨#[]⟩, .int .i64 0, .slice none 0 0, .slice none 0 0, .slice none 0 0] 33)).heap.size = w.heap.size + 2) := ⟨by simp⟩
  go_upto_region 1 with fail
  generalize ((w.alloc (.cells #[.string m.nm, .int .i64 m.ov, .slice A1 n1 c1, .slice A2 n2 c2, .slice A3 n3 c3] 33)).alloc (.cells #[.string ⟨#[]⟩, .int .i64 0, .slice none 0 0, .slice none 0 0, .slice none 0 0] 33)) = W0 at *
  have CA : Box (∀ W, Below w.heap.size w W → Calls Try.prog 69 #[.slice A1 n1 c1] W fun e w' => ∃ A' c', e = .returned (.slice A' n1 c') ∧ SlO (fun b => W.heap.size ≤ b) w' 1 (RStrO (fun b => W.heap.size ≤ b)) A' n1 c' m.pr ∧ Below W.heap.size W w') := ⟨fun W hW => c_CloneStr A1 n1 c1 m.pr W (H.out.pr.below mono_str hW) hn1⟩
  have CB : Box (∀ W, Below w.heap.size w W → Calls Try.prog 104 #[.slice A2 n2 c2] W fun e w' => ∃ A' c', e = .returned (.slice A' n2 c') ∧ SlO (fun b => W.heap.size ≤ b) w' 1 (RIntO (fun b => W.heap.size ≤ b)) A' n2 c' m.sz ∧ Below W.heap.size W w') := ⟨fun W hW => c_CloneInt A2 n2 c2 m.sz W (H.out.sz.below mono_int hW) hn2⟩
  have HBd : Box (Below w.heap.size w W0.drew) := ⟨⟨HB0.out.os, HB0.out.tape, HB0.out.output, HB0.out.size, HB0.out.block⟩⟩
  have HMd : Box (MdB W0.drew w.heap.size m.nm m.ov (.slice A1 n1 c1) (.slice A2 n2 c2) (.slice A3 n3 c3)) := ⟨HM0.out⟩
  go_cut [] (fun wx => ∃ B1 d1 B2 d2, Box (MdB wx w.heap.size m.nm m.ov (.slice B1 n1 d1) (.slice B2 n2 d2) (.slice A3 n3 c3)) ∧ Box (Below w.heap.size w wx) ∧ Box (w.heap.size + 2 ≤ wx.heap.size ∧ wx.heap[w.heap.size + 1]? = some (.cells #[.string ⟨#[]⟩, .int .i64 0, .slice none 0 0, .slice none 0 0, .slice none 0 0] 33 (0, 0))) ∧
    Box (SlO (fun b => w.heap.size + 2 ≤ b) wx 1 (RStrO (fun b => w.heap.size + 2 ≤ b)) B1 n1 d1 m.pr) ∧ Box (SlO (fun b => w.heap.size + 2 ≤ b) wx 1 (RIntO (fun b => w.heap.size + 2 ≤ b)) B2 n2 d2 m.sz))
  case first =>
    obtain ⟨q0, q1, q2, q3, q4, _⟩ := HM0.out.cells
    go_region_with (first
      | (go_at_call 69; refine (CA.out _ HBd.out).mono ?_; rintro e wa ⟨B1, d1, rfl, hs1, hb1⟩; have HMa := Box.mk (HMd.out.kp (below_gb hb1 none) (by simp)); have r3 := HMa.out.cells.2.2.2.1; have HBa := Box.mk (below_tr HBd.out HBd.out.size hb1); have HS1 := Box.mk hs1; have HBb1 := Box.mk hb1; clear hs1 hb1)
      | (go_at_call 104; refine (CB.out _ HBa.out).mono ?_; rintro e wb ⟨B2, d2, rfl, hs2, hb2⟩; have HMb := Box.mk (HMa.out.kp (below_gb hb2 none) (by simp)); have s2' := HMb.out.cells.2.2.1; have s3' := HMb.out.cells.2.2.2.1; have f2' := HMb.out.fz 2; have f3' := HMb.out.fz 3; have HBb := Box.mk (below_tr HBa.out HBa.out.size hb2); have HS2 := Box.mk hs2; have HBb2 := Box.mk hb2; clear hs2 hb2))
    all_goals
      go_wp2_with fail
      go_meet
      have g1 := st_cell (wb) w.heap.size 2 (.slice B1 n1 d1)
      have g2 := st_cell (wb.setCell ⟨w.heap.size, 2, none⟩ (.slice B1 n1 d1)) w.heap.size 3 (.slice B2 n2 d2)
      have g3 := grown_tr g1 g2
      have hzz := HZ0.out
      have hW0 := HW0.out
      have hz1 := HBb1.out.size
      have hz2 := HBb2.out.size
      have hz3 := g3.size
      have hz0 : W0.drew.heap.size = w.heap.size + 2 := hW0
      refine ⟨B1, d1, B2, d2, ⟨(HMb.out.st2 _).st3 _⟩, ⟨HBb.out.grown g3 HBb.out.size (fun q hq => by injection hq with hq; omega)⟩, ⟨by omega, ?_⟩, ⟨?_⟩, ⟨?_⟩⟩
      · rw [g3.block _ (by omega) (fun e => by injection e with e; omega), HBb2.out.block _ (by omega), HBb1.out.block _ (by omega)]
        exact hzz
      · exact (((HS1.out.weak rdStr (ok' := fun b => w.heap.size + 2 ≤ b) (fun b _ h => by omega)).kept rdStr (below_gb HBb2.out none) (fun b e => by cases e))).kept rdStr g3 (fun b e => by injection e with e; omega)
      · exact ((HS2.out.weak rdInt (ok' := fun b => w.heap.size + 2 ≤ b) (fun b _ h => by omega))).kept rdInt g3 (fun b e => by injection e with e; omega)
  case rest =>
    obtain ⟨B1, d1, B2, d2, HM, HB, HZ, HS1, HS2⟩ := hcut
    clear HM0 HB0 HZ0 HMd HBd CA CB
    obtain ⟨vs, hvl, hsrc0, hvx⟩ := src_sls H.out.cl
    have hsrc := hsrc0.below HB.out
    have HVL := Box.mk hvl
    have HVX := Box.mk hvx
    have C := Box.mk (c_CloneSl A3 n3 c3 vs wc (fun e => by
      subst e
      rcases Nat.eq_zero_or_pos n3 with h0 | h0
      · exact ⟨h0, List.eq_nil_of_length_eq_zero (by omega)⟩
      · obtain ⟨b, off, x, _, _, _, e, _⟩ := H.out.cl.sl_at 0 h0
        cases e) hsrc hn3)
    clear hvl hsrc hvx hsrc0
    obtain ⟨q0, q1, q2, q3, q4, _⟩ := HM.out.cells
    go_wp2_with fail
    refine C.out.mono ?_
    rintro e w5 ⟨v3, rfl, ho5, hb5⟩
    have HM5 := Box.mk (HM.out.kp (below_gb hb5 none) (by simp))
    have HB5 := Box.mk (below_tr HB.out HB.out.size hb5)
    have HZ5 : Box (w.heap.size + 2 ≤ w5.heap.size ∧ w5.heap[w.heap.size + 1]? = some (.cells #[.string ⟨#[]⟩, .int .i64 0, .slice none 0 0, .slice none 0 0, .slice none 0 0] 33 (0, 0))) := ⟨Nat.le_trans HZ.out.1 hb5.size, (hb5.block _ (by have := HZ.out.1; omega)).trans HZ.out.2⟩
    have HS15 := Box.mk ((HS1.out.weak rdStr (ok' := fun b => w.heap.size + 2 ≤ b ∧ b < wc.heap.size) (fun b hb h => ⟨h, hb⟩)).kept rdStr (below_gb hb5 none) (fun b e => by cases e))
    have HS25 := Box.mk ((HS2.out.weak rdInt (ok' := fun b => w.heap.size + 2 ≤ b ∧ b < wc.heap.size) (fun b hb h => ⟨h, hb⟩)).kept rdInt (below_gb hb5 none) (fun b e => by cases e))
    have HW1 : Box (w.heap.size + 2 ≤ wc.heap.size) := ⟨HZ.out.1⟩
    have HGE : Box (∀ B, v3.ownBlock = some B → wc.heap.size ≤ B) := ⟨fun B e => (ho5.lt B e).1⟩
    have HC5 : Box (ClI w (w.heap.size + 2) w5 v3 n3 m.cl 0 vs) := ⟨by
      refine ⟨?_, H.out.cl.len, fun i _ hi => ?_, fun i hi => by omega⟩
      · obtain ⟨h1, h2⟩ := ho5
        exact ⟨h1, h2.imp id fun ⟨g, cap, cur, e, hb, r⟩ => ⟨g, cap, cur, e, Nat.le_trans HZ.out.1 hb, r⟩⟩
      · obtain ⟨v, hv⟩ : ∃ v, vs[i]? = some v := ⟨_, List.getElem?_eq_getElem (by rw [HVL.out]; exact hi)⟩
        obtain ⟨A', n', c', x, rfl, hx, hs⟩ := HVX.out i v hv
        exact ⟨A', n', c', x, hv, hx, hs⟩⟩
    clear ho5 hb5 q0 q1 q2 q3 q4 C HM HB HZ HS1 HS2
    obtain ⟨A3', c3', e3⟩ : ∃ A3' c3', v3 = .slice A3' n3 c3' := by
      rcases HC5.out.own.2 with ⟨e, h0⟩ | ⟨g, cap, cur, e, _⟩
      · exact ⟨none, 0, by rw [e, h0]⟩
      · exact ⟨_, cap, e⟩
    subst e3
    have HLM : Box (∀ B, (Value.slice A3' n3 c3').ownBlock = some B → w.heap.size + 2 ≤ B ∧ B < w5.heap.size) := ⟨HC5.out.own.lt⟩
    obtain ⟨q0, q1, q2, q3, q4, _⟩ := HM5.out.cells
    have f4 := HM5.out.fz 4
    have hlim3 := H.out.cl.lim
    have g1 := st_cell (w5) w.heap.size 4 (.slice A3' n3 c3')
    have HM6 := Box.mk (HM5.out.st4 (.slice A3' n3 c3'))
    have HB6 := Box.mk (HB5.out.grown g1 HB5.out.size (fun q hq => by injection hq with hq; omega))
    have HZ6 : Box (w.heap.size + 2 ≤ (w5.setCell ⟨w.heap.size, 4, none⟩ (.slice A3' n3 c3')).heap.size ∧ (w5.setCell ⟨w.heap.size, 4, none⟩ (.slice A3' n3 c3')).heap[w.heap.size + 1]? = some (.cells #[.string ⟨#[]⟩, .int .i64 0, .slice none 0 0, .slice none 0 0, .slice none 0 0] 33 (0, 0))) := ⟨Nat.le_trans HZ5.out.1 g1.size, (g1.block _ (by have := HZ5.out.1; omega) (fun e => by injection e with e; omega)).trans HZ5.out.2⟩
    have HS16 := Box.mk (HS15.out.kept rdStr g1 (fun b e => by injection e with e; omega))
    have HS26 := Box.mk (HS25.out.kept rdInt g1 (fun b e => by injection e with e; omega))
    have HC6 := Box.mk (HC5.out.kept g1 (by
      cases A3' with
      | none => exact .inl rfl
      | some a => exact .inr (fun e => by have := (HLM.out _ e).1; omega)) (by omega))
    clear g1 HM5 HB5 HZ5 HS15 HS25 HC5
    go_wp2_with fail
    clear q0 q1 q2 q3 q4 f4 HLM
    generalize w5.setCell ⟨w.heap.size, 4, none⟩ (.slice A3' n3 c3') = W6 at *
    go_loopw [3, 4, 20] (fun _ _ i wr => ∃ (j : Nat) (us : List Value), j ≤ n3 ∧ i = .int .i64 j ∧ Box (ClI w (w.heap.size + 2) wr (.slice A3' n3 c3') n3 m.cl j us) ∧ Box (MdB wr w.heap.size m.nm m.ov (.slice B1 n1 d1) (.slice B2 n2 d2) (.slice A3' n3 c3')) ∧ Box (Below w.heap.size w wr) ∧
      Box (w.heap.size + 2 ≤ wr.heap.size ∧ wr.heap[w.heap.size + 1]? = some (.cells #[.string ⟨#[]⟩, .int .i64 0, .slice none 0 0, .slice none 0 0, .slice none 0 0] 33 (0, 0))) ∧
      Box (SlO (fun b => w.heap.size + 2 ≤ b ∧ b < wc.heap.size) wr 1 (RStrO (fun b => w.heap.size + 2 ≤ b ∧ b < wc.heap.size)) B1 n1 d1 m.pr) ∧ Box (SlO (fun b => w.heap.size + 2 ≤ b ∧ b < wc.heap.size) wr 1 (RIntO (fun b => w.heap.size + 2 ≤ b ∧ b < wc.heap.size)) B2 n2 d2 m.sz)) (fun _ _ i _ => n3 - (intOf i).toNat)
    case atStart => exact ⟨0, vs, Nat.zero_le _, rfl, HC6, HM6, HB6, HZ6, HS16, HS26⟩
    case round =>
      clear HC6 HM6 HB6 HZ6 HS16 HS26
      obtain ⟨j, us, hj, rfl, HC, HM, HB, HZ, HS1, HS2⟩ := hrel
      by_cases hjl : j < n3
      · obtain ⟨g, rfl⟩ : ∃ g, A3' = some ⟨g, 0, none⟩ := by
          rcases HC.out.own.2 with ⟨_, h0⟩ | ⟨g, cap, cur, e, _⟩
          · omega
          · injection e with e; exact ⟨g, e⟩
        obtain ⟨A', n', c', x, hu, hx, hs⟩ := HC.out.rest j (Nat.le_refl _) hjl
        have hn' : n' ≤ 1000000 := by have := HCL.out x (List.mem_iff_getElem?.2 ⟨j, hx⟩); rw [hs.len] at this; exact this
        have hcj := cell_of_own HC.out.own hu
        have HU := Box.mk hu
        have hgl := HC.out.own.lt g rfl
        have CA : Box (∀ W, Below w.heap.size w W → Calls Try.prog 69 #[.slice A' n' c'] W fun e w' => ∃ A1 c1, e = .returned (.slice A1 n' c1) ∧ SlO (fun b => W.heap.size ≤ b) w' 1 (RStrO (fun b => W.heap.size ≤ b)) A1 n' c1 x ∧ Below W.heap.size W w') := ⟨fun W hW => c_CloneStr A' n' c' x W (hs.below mono_str hW) hn'⟩
        have HBd : Box (Below w.heap.size w wr.drew) := ⟨⟨HB.out.os, HB.out.tape, HB.out.output, HB.out.size, HB.out.block⟩⟩
        have HMd : Box (MdB wr.drew w.heap.size m.nm m.ov (.slice B1 n1 d1) (.slice B2 n2 d2) (.slice (some ⟨g, 0, none⟩) n3 c3')) := ⟨HM.out⟩
        have HOd : Box (wr.drew.ownsRow (w.heap.size + 2) 23 1 (.slice (some ⟨g, 0, none⟩) n3 c3') n3 us) := ⟨HC.out.own⟩
        have HX := Box.mk hx
        have q4 := HM.out.cells.2.2.2.2.1
        clear hu hx hs
        go_upto_region 6 with fail
        go_region_with (go_at_call 69; refine (CA.out _ HBd.out).mono ?_; rintro e wa ⟨D1, e1, rfl, hs1, hb1⟩; have HMa := Box.mk (HMd.out.kp (below_gb hb1 none) (by simp)); have r4 := HMa.out.cells.2.2.2.2.1; have HBa := Box.mk (below_tr HBd.out HBd.out.size hb1); have HS3 := Box.mk hs1; have HOa := Box.mk (own_below HOd.out hb1); have HG1 := Box.mk hb1; have fg := (own_store HOa.out undef hjl).2.2.1; have cg := cell_of_own HOa.out HU.out; clear hs1 hb1)
        all_goals
          obtain ⟨ho, hg, _, _⟩ := own_store HOa.out (.slice D1 n' e1) hjl
          have hgw : wr.grownBy wa none := by
            have h := below_gb HG1.out none
            exact ⟨h.os, h.tape, h.output, h.size, h.block⟩
          have hsz : w.heap.size + 2 ≤ wa.heap.size := Nat.le_trans HZ.out.1 HG1.out.size
          have hCn : ClI w (w.heap.size + 2) (wa.setCell ⟨g, j, none⟩ (.slice D1 n' e1)) (.slice (some ⟨g, 0, none⟩) n3 c3') n3 m.cl (j + 1) (us.set j (.slice D1 n' e1)) := by
            refine ⟨ho, HC.out.len, fun i hi hin => ?_, fun i hi => ?_⟩
            · rw [List.getElem?_set_ne (by omega)]
              exact HC.out.rest i (by omega) hin
            · by_cases hij : i = j
              · subst hij
                refine ⟨D1, n', e1, x, ?_, HX.out, ?_⟩
                · have hul : i < us.length := by have := HC.out.own.1; omega
                  simp [hul]
                · refine (HS3.out.weak rdStr (fun b _ h => ⟨Nat.le_trans HZ.out.1 h, fun e => ?_⟩)).kept rdStr hg (fun b e h => h.2 e.symm)
                  have e : some b = some g := e
                  injection e with e
                  have h : wr.heap.size ≤ b := h
                  omega
              · obtain ⟨A2', n2', c2', x', h1, h2, h3⟩ := HC.out.done i (by omega)
                exact ⟨A2', n2', c2', x', by rw [List.getElem?_set_ne (by omega)]; exact h1, h2, (h3.kept rdStr hgw (fun b e => by cases e)).kept rdStr hg (fun b e h => h.2 e.symm)⟩
          have hok : ∀ b, some g = some b → ¬ (w.heap.size + 2 ≤ b ∧ some b ≠ some g) := fun b e h => h.2 e.symm
          have hMn := Box.mk (HMa.out.kp hg (by intro e; injection e with e; omega))
          have hBn := Box.mk (HBa.out.grown hg HBa.out.size (fun q hq => by injection hq with hq; omega))
          have hZn : Box (w.heap.size + 2 ≤ (wa.setCell ⟨g, j, none⟩ (.slice D1 n' e1)).heap.size ∧ (wa.setCell ⟨g, j, none⟩ (.slice D1 n' e1)).heap[w.heap.size + 1]? = some (.cells #[.string ⟨#[]⟩, .int .i64 0, .slice none 0 0, .slice none 0 0, .slice none 0 0] 33 (0, 0))) :=
            ⟨Nat.le_trans hsz hg.size, (hg.block _ (by omega) (fun e => by injection e with e; omega)).trans ((HG1.out.block _ (by have : w.heap.size + 2 ≤ wr.drew.heap.size := HZ.out.1; omega)).trans HZ.out.2)⟩
          have HCn := Box.mk hCn
          have HS1n := Box.mk ((HS1.out.kept rdStr hgw (fun b e => by cases e)).kept rdStr hg (fun b e h => by injection e with e; have := HGE.out g rfl; omega))
          have HS2n := Box.mk ((HS2.out.kept rdInt hgw (fun b e => by cases e)).kept rdInt hg (fun b e h => by injection e with e; have := HGE.out g rfl; omega))
          clear ho hg hsz hok hgw hCn
          go_wp2_with fail
          refine ⟨⟨j + 1, _, by omega, by go_num, HCn, hMn, hBn, hZn, HS1n, HS2n⟩, ?_⟩
          simp [intOf] <;> omega
      · obtain rfl : j = n3 := by omega
        obtain ⟨q0, q1, q2, q3, q4, _⟩ := HM.out.cells
        have HM2 : Box (MdB wr (w.heap.size + 1) ⟨#[]⟩ 0 (.slice none 0 0) (.slice none 0 0) (.slice none 0 0)) := ⟨HZ.out.2⟩
        obtain ⟨z0, z1, z2, z3, z4, _⟩ := HM2.out.cells
        have y0 := HM2.out.fz 0
        have y1 := HM2.out.fz 1
        have y2 := HM2.out.fz 2
        have y3 := HM2.out.fz 3
        have y4 := HM2.out.fz 4
        have HF := Box.mk (HM2.out.all (nm' := m.nm) (o' := m.ov) (s1' := .slice B1 n1 d1) (s2' := .slice B2 n2 d2) (s3' := .slice A3' j c3'))
        go_wp2_with fail
        have HBn := Box.mk (HB.out.grown HF.out.2 HB.out.size (fun q hq => by injection hq with hq; omega))
        have HS1n := (HS1.out.kept rdStr HF.out.2 (fun b e h => by injection e with e; omega)).weak rdStr (ok' := fun b => w.heap.size ≤ b) (fun b _ h => by omega)
        have HS2n := (HS2.out.kept rdInt HF.out.2 (fun b e h => by injection e with e; omega)).weak rdInt (ok' := fun b => w.heap.size ≤ b) (fun b _ h => by omega)
        have HS3n : SlO (fun b => w.heap.size ≤ b) (((((wr.setCell ⟨w.heap.size + 1, 0, none⟩ (.string m.nm)).setCell ⟨w.heap.size + 1, 1, none⟩ (.int .i64 m.ov)).setCell ⟨w.heap.size + 1, 2, none⟩ (.slice B1 n1 d1)).setCell ⟨w.heap.size + 1, 3, none⟩ (.slice B2 n2 d2)).setCell ⟨w.heap.size + 1, 4, none⟩ (.slice A3' j c3')) 1 (RSlO 1 RStrO (fun b => w.heap.size ≤ b)) A3' j c3' m.cl := by
          have hk := HC.out.kept HF.out.2 (by
            cases A3' with
            | none => exact .inl rfl
            | some a => exact .inr (fun e => by have := HGE.out _ e; have := HW1.out; omega)) (by omega)
          refine ⟨hk.len, ?_, hlim3, fun hn => ?_⟩
          · rcases hk.own.2 with ⟨e, h0⟩ | ⟨g, cap, cur, e, _, _, hnc, _⟩
            · omega
            · injection e with _ _ e
              omega
          · rcases hk.own.2 with ⟨e, h0⟩ | ⟨g, cap, cur, e, hbb, hg, hnc, _⟩
            · omega
            · have e' := e
              injection e with e _ _
              subst e
              refine ⟨g, 0, rfl, (Array.getElem?_eq_some_iff.1 hg).1, by omega, fun i x hx => ?_⟩
              have hi : i < j := by rw [← hk.len]; exact (List.getElem?_eq_some_iff.1 hx).1
              obtain ⟨A2', n2', c2', x', h1, h2, h3⟩ := hk.done i hi
              rw [hx] at h2
              injection h2 with h2
              subst h2
              refine ⟨[.slice A2' n2' c2'], rfl, ⟨A2', n2', c2', rfl, h3.weak rdStr (fun b _ h => by have := h.1; omega)⟩, fun t u hu => ?_⟩
              match t, hu with
              | 0, hu =>
                have hu : Value.slice A2' n2' c2' = u := by simpa using hu
                subst hu
                have := cell_of_own hk.own h1
                simpa using this
              | t + 1, hu => simp at hu
        have HS1m := Box.mk HS1n
        have HS2m := Box.mk HS2n
        have HS3m := Box.mk HS3n
        clear HS1n HS2n HS3n q0 q1 q2 q3 q4 z0 z1 z2 z3 z4 y0 y1 y2 y3 y4
        generalize (((((wr.setCell ⟨w.heap.size + 1, 0, none⟩ (.string m.nm)).setCell ⟨w.heap.size + 1, 1, none⟩ (.int .i64 m.ov)).setCell ⟨w.heap.size + 1, 2, none⟩ (.slice B1 n1 d1)).setCell ⟨w.heap.size + 1, 3, none⟩ (.slice B2 n2 d2)).setCell ⟨w.heap.size + 1, 4, none⟩ (.slice A3' j c3')) = W9 at *
        obtain ⟨k0, k1, k2, k3, k4, _⟩ := HF.out.1.cells
        exact bodyPost_ret (v := .agg #[.string m.nm, .int .i64 m.ov, .slice B1 n1 d1, .slice B2 n2 d2, .slice A3' j c3']) (by simp [results, Try.results71, go_sem, *]) rfl ⟨B1, d1, B2, d2, A3', c3', rfl, HS1m.out, HS2m.out, HS3m.out, HBn.out⟩
end Go.Proofs.Ytchhjldopecliaa
namespace Go.Proofs.Ytchhjldopecliaa
open Go.RowKit

/-- What Move tells. -/
def mvM (x : Str) (n : Int) (m : Md) : Md := if m.nm = x then setOv n m else m
def mov (ms : List Md) (x : Str) (n : Int) : List Md × Int :=
  if vld ms ≠ 0 then ([], vld ms) else if n < 0 ∨ 15 < n then ([], 1) else if x ∈ namesOf ms then (ms.map (mvM x n), 0) else ([], 4)
theorem Good.prlen {ms : List Md} (h : Good ms) {m : Md} (hm : m ∈ ms) : m.pr.length ≤ 100 := by
  have h1 := h.total
  obtain ⟨k, hk⟩ := List.mem_iff_getElem?.1 hm
  have h2 := sumL_mono ms (k + 1)
  rw [sumL_take hk] at h2
  omega
/-- A module's cells, read. -/
theorem RMdO.mk' {ok : Nat → Prop} {w : World} {m : Md} {B1 B2 B3 : Option Addr} {n1 d1 n2 d2 n3 d3 : Nat} (h0 : m.nm.size ≤ LIM) (h1 : SlO ok w 1 (RStrO ok) B1 n1 d1 m.pr) (h2 : SlO ok w 1 (RIntO ok) B2 n2 d2 m.sz) (h3 : SlO ok w 1 (RSlO 1 RStrO ok) B3 n3 d3 m.cl) (o : Int) :
    RMdO ok w (setOv o m) [.string m.nm, .int .i64 o, .slice B1 n1 d1, .slice B2 n2 d2, .slice B3 n3 d3] := ⟨B1, n1, d1, B2, n2, d2, B3, n3, d3, rfl, h0, h1, h2, h3⟩

set_option maxRecDepth 100000 in
set_option maxHeartbeats 4000000 in
theorem c_Move (A : Option Addr) (n c : Nat) (ms : List Md) (x : Str) (o : Int) (w : World) (h : SlR w 5 RMd A n c ms) :
    Calls Try.prog 34 #[.slice A n c, .string x, .int .i64 o] w fun e w' => ∃ A' c', e = .returned (.tuple #[.slice A' (mov ms x o).1.length c', .int .i64 (mov ms x o).2]) ∧ SlR w' 5 RMd A' (mov ms x o).1.length c' (mov ms x o).1 ∧ Below w.heap.size w w' := by
  have hlim := h.lim
  have H := Box.mk h
  clear h
  go_enter Try.func34, Try.ntmps34
  go_wp2_with fail
  refine (c_Validate A n c ms w H.out).mono ?_
  rintro e w1 ⟨rfl, hb1⟩
  have HB1 := Box.mk hb1
  clear hb1
  generalize hv : vld ms = V
  by_cases h0 : V = 0
  · subst h0
    have HG := Box.mk (vld_good hv)
    have HV := Box.mk hv
    clear hv
    by_cases ho1 : o < 0
    · have HO : Box (mov ms x o = ([], 1)) := ⟨by simp [mov, HV.out, ho1]⟩
      go_wp2_with fail
      go_ret2
      rw [HO.out]
      exact ⟨_, _, rfl, slr_nil _ _ _ _ _, HB1.out⟩
    by_cases ho2 : 15 < o
    · have HO : Box (mov ms x o = ([], 1)) := ⟨by simp [mov, HV.out, ho2]⟩
      go_wp2_with fail
      go_ret2
      rw [HO.out]
      exact ⟨_, _, rfl, slr_nil _ _ _ _ _, HB1.out⟩
    have hd1 : decide (o < 0) = false := by simp [ho1]
    have hd2 : decide (15 < o) = false := by simp [ho2]
    have HO : Box (mov ms x o = if x ∈ namesOf ms then (ms.map (mvM x o), 0) else ([], 4)) := ⟨by simp [mov, HV.out, ho1, ho2]⟩
    clear ho1 ho2
    go_wp2_with fail
    go_loopw [9, 10, 12, 13, 27] (fun v9 v10 _ _ i wr => ∃ k : Nat, k ≤ n ∧ i = .int .i64 k ∧ v9 = .bool (decide (x ∈ namesOf (ms.take k))) ∧ Box (Below w1.heap.size w1 wr) ∧ Box (OwnO (fun b => some b ≠ v10.ownBlock) wr w1.heap.size 33 5 RMdO v10 ((ms.take k).map (mvM x o)))) (fun _ _ _ _ i _ => n - (intOf i).toNat)
    case atStart => exact ⟨0, Nat.zero_le _, rfl, by simp [namesOf], ⟨Below.refl _ _⟩, ⟨OwnO.nil⟩⟩
    case round =>
      obtain ⟨k, hk, rfl, rfl, HB, HR⟩ := hrel
      have HBw := Box.mk (below_tr HB1.out HB1.out.size HB.out)
      by_cases hlt : k < n
      · obtain ⟨b, off, m, A1, n1, c1, A2, n2, c2, A3, n3, c3, rfl, hb, hm, hM, h0, h1, h2, h3, h4⟩ := H.out.md_at k hlt
        replace h0 := cellk HBw.out hb h0
        replace h1 := cellk HBw.out hb h1
        replace h2 := cellk HBw.out hb h2
        replace h3 := cellk HBw.out hb h3
        replace h4 := cellk HBw.out hb h4
        have hmm : m ∈ ms := List.mem_iff_getElem?.2 ⟨k, hm⟩
        obtain ⟨hf1, hf2⟩ := HG.out.fit hmm
        have hpl := HG.out.prlen hmm
        have HCL : Box (∀ l ∈ m.cl, l.length ≤ 1000000) := ⟨fun l hl => by have := HG.out.calls m hmm l hl; omega⟩
        have hn1 : n1 ≤ 100 := by rw [← hM.pr.len]; exact hpl
        have hn2 : n2 ≤ 100 := by rw [← hM.sz.len, hf1]; exact hpl
        have hn3 : n3 ≤ 100 := by rw [← hM.cl.len, hf2]; exact hpl
        have HM := Box.mk hM
        have HTK : Box ((ms.take (k + 1)).map (mvM x o) = (ms.take k).map (mvM x o) ++ [mvM x o m]) := ⟨by rw [List.take_add_one, hm]; simp⟩
        have HNM : Box (namesOf (ms.take (k + 1)) = namesOf (ms.take k) ++ [m.nm]) := ⟨by rw [namesOf_take hm]⟩
        have HK32 : Box (((ms.take k).map (mvM x o)).length ≤ 32) := ⟨by rw [List.length_map]; exact Nat.le_trans (List.length_take_le' ..) HG.out.len⟩
        have HBA : Box (Below w.heap.size w (wr.alloc (.cells #[.string m.nm, .int .i64 m.ov, .slice A1 n1 c1, .slice A2 n2 c2, .slice A3 n3 c3] 33))) := ⟨bel_alloc2 HBw.out _⟩
        have HBA1 : Box (Below w1.heap.size w1 (wr.alloc (.cells #[.string m.nm, .int .i64 m.ov, .slice A1 n1 c1, .slice A2 n2 c2, .slice A3 n3 c3] 33))) := ⟨bel_alloc2 HB.out _⟩
        have HMA : Box (MdB (wr.alloc (.cells #[.string m.nm, .int .i64 m.ov, .slice A1 n1 c1, .slice A2 n2 c2, .slice A3 n3 c3] 33)) wr.heap.size m.nm m.ov (.slice A1 n1 c1) (.slice A2 n2 c2) (.slice A3 n3 c3)) := ⟨MdB.new _ _ _ _ _ _⟩
        have HRA := Box.mk (HR.out.alloc rdMd (.cells #[.string m.nm, .int .i64 m.ov, .slice A1 n1 c1, .slice A2 n2 c2, .slice A3 n3 c3] 33))
        clear hm hM hmm hf1 hf2 hpl hb
        go_upto_region 11 with fail
        generalize hp : wr.heap.size = p12 at *
        have HP12 : Box (p12 < (wr.alloc (.cells #[.string m.nm, .int .i64 m.ov, .slice A1 n1 c1, .slice A2 n2 c2, .slice A3 n3 c3] 33)).heap.size) := ⟨HMA.out.lt⟩
        clear hp h0 h1 h2 h3 h4
        generalize (wr.alloc (.cells #[.string m.nm, .int .i64 m.ov, .slice A1 n1 c1, .slice A2 n2 c2, .slice A3 n3 c3] 33)) = W1 at *
        obtain ⟨q0, q1, q2, q3, q4, _⟩ := HMA.out.cells
        go_wp2_with fail
        refine (c_cloned m A1 n1 c1 A2 n2 c2 A3 n3 c3 W1 (HM.out.below HBA.out) (by omega) (by omega) (by omega) HCL.out).mono ?_
        rintro e W2 ⟨B1, d1, B2, d2, B3, d3, rfl, hs1, hs2, hs3, hb2⟩
        have HM2 := Box.mk (HMA.out.kp (below_gb hb2 none) (by simp))
        have HB2 := Box.mk (below_tr HBA1.out HBA1.out.size hb2)
        have HR2 := Box.mk (HRA.out.below rdMd hb2)
        have HL1 := Box.mk HRA.out.lt
        have HSA := Box.mk hs1
        have HSB := Box.mk hs2
        have HSC := Box.mk hs3
        have HZ12 := Box.mk hb2.size
        have HNL := Box.mk HM.out.nm
        clear q0 q1 q2 q3 q4 hs1 hs2 hs3 hb2 HBA HBA1 HMA HRA HB HR
        have HM3 : Box (MdB (W2.alloc (.cells #[.string m.nm, .int .i64 m.ov, .slice B1 n1 d1, .slice B2 n2 d2, .slice B3 n3 d3] 33)) p12 m.nm m.ov (.slice A1 n1 c1) (.slice A2 n2 c2) (.slice A3 n3 c3)) := ⟨(Below.heap_alloc _ _ _ HM2.out.lt).trans HM2.out⟩
        have HX3 : Box (MdB (W2.alloc (.cells #[.string m.nm, .int .i64 m.ov, .slice B1 n1 d1, .slice B2 n2 d2, .slice B3 n3 d3] 33)) W2.heap.size m.nm m.ov (.slice B1 n1 d1) (.slice B2 n2 d2) (.slice B3 n3 d3)) := ⟨MdB.new _ _ _ _ _ _⟩
        have HB3 : Box (Below w1.heap.size w1 (W2.alloc (.cells #[.string m.nm, .int .i64 m.ov, .slice B1 n1 d1, .slice B2 n2 d2, .slice B3 n3 d3] 33))) := ⟨bel_alloc2 HB2.out _⟩
        have HK3 : Box (W2.grownBy (W2.alloc (.cells #[.string m.nm, .int .i64 m.ov, .slice B1 n1 d1, .slice B2 n2 d2, .slice B3 n3 d3] 33)) none) := ⟨World.grownBy_alloc _ _ _⟩
        have HS3 : Box ((W2.alloc (.cells #[.string m.nm, .int .i64 m.ov, .slice B1 n1 d1, .slice B2 n2 d2, .slice B3 n3 d3] 33)).heap.size = W2.heap.size + 1) := ⟨by simp⟩
        go_upto_region 12 with fail
        generalize (W2.alloc (.cells #[.string m.nm, .int .i64 m.ov, .slice B1 n1 d1, .slice B2 n2 d2, .slice B3 n3 d3] 33)) = W3 at *
        have r0 := HM3.out.cells.1
        obtain ⟨q0, q1, q2, q3, q4, _⟩ := HX3.out.cells
        have f1 := HX3.out.fz 1
        have hq : (ByteArray.toList m.nm == ByteArray.toList x) = decide (m.nm = x) := tleq m.nm x
        by_cases hnx : m.nm = x
        · rw [decide_eq_true hnx] at hq
          have hg4 := st_cell W3 W2.heap.size 1 (.int .i64 o)
          have HX4 := Box.mk (HX3.out.set o).1
          have HK4 := Box.mk hg4
          have HFN : Box (decide (x ∈ namesOf (ms.take (k + 1))) = true) := ⟨by rw [HNM.out]; simp [hnx]⟩
          have HMV : Box (mvM x o m = setOv o m) := ⟨by rw [mvM, if_pos hnx]⟩
          clear hnx hg4
          go_upto_region 15 with fail
          generalize W3.setCell ⟨W2.heap.size, 1, none⟩ (.int .i64 o) = W4 at *
          clear q0 q1 q2 q3 q4 f1 r0 hq
          have HR4 : Box (OwnO (fun b => some b ≠ u10.ownBlock ∧ b ≠ W2.heap.size ∧ b < W4.heap.size) W4 w1.heap.size 33 5 RMdO u10 ((ms.take k).map (mvM x o))) := ⟨by
            have a1 := (HR2.out.weak rdMd (ok' := fun b => some b ≠ u10.ownBlock ∧ b ≠ W2.heap.size ∧ b < W4.heap.size) (fun b hb h => ⟨h, by omega, by have := HK3.out.size; have := HK4.out.size; omega⟩)).kept rdMd HK3.out (by cases u10.ownBlock <;> simp) (fun b e => by cases e)
            exact a1.kept rdMd HK4.out (by
              cases hu : u10.ownBlock with
              | none => exact .inl rfl
              | some q => exact .inr (fun e => by have := (HL1.out q hu).2; have := HZ12.out; injection e with e; omega)) (fun b e h => by injection e with e; exact h.2.1 e.symm)⟩
          have HE : Box (RMdO (fun b => some b ≠ u10.ownBlock ∧ b ≠ W2.heap.size ∧ b < W4.heap.size) W4 (mvM x o m) [.string m.nm, .int .i64 o, .slice B1 n1 d1, .slice B2 n2 d2, .slice B3 n3 d3]) := ⟨by
            have hw : ∀ b, b < W2.heap.size → W1.heap.size ≤ b → some b ≠ u10.ownBlock ∧ b ≠ W2.heap.size ∧ b < W4.heap.size := fun b hb h => ⟨fun e => by have := (HL1.out b e.symm).2; omega, by omega, by have := HK3.out.size; have := HK4.out.size; omega⟩
            have b1 := ((HSA.out.weak rdStr hw).kept rdStr HK3.out (fun b e => by cases e)).kept rdStr HK4.out (fun b e h => by injection e with e; exact h.2.1 e.symm)
            have b2 := ((HSB.out.weak rdInt hw).kept rdInt HK3.out (fun b e => by cases e)).kept rdInt HK4.out (fun b e h => by injection e with e; exact h.2.1 e.symm)
            have b3 := ((HSC.out.weak (rdSl rdStr) hw).kept (rdSl rdStr) HK3.out (fun b e => by cases e)).kept (rdSl rdStr) HK4.out (fun b e h => by injection e with e; exact h.2.1 e.symm)
            rw [HMV.out]
            exact RMdO.mk' HNL.out b1 b2 b3 _⟩
          have HB4 := Box.mk (HB3.out.grown HK4.out HB3.out.size (fun q hq => by injection hq with hq; have := HB2.out.size; omega))
          have HBS : Box (w1.heap.size ≤ W4.heap.size) := ⟨HB4.out.size⟩
          have HOL := Box.mk HR4.out.lt
          obtain ⟨flat, how, hpc⟩ := HR4.out.opened rdMd
          have HOW := Box.mk how
          have PC := Box.mk hpc
          have HLB : Box ((((ms.take k).map (mvM x o)).length + 1) * 96 ≤ 140737488355328) := ⟨by have := HK32.out; omega⟩
          obtain ⟨q0, q1, q2, q3, q4, _⟩ := HX4.out.cells
          clear how hpc
          go_wp2_with (at_builtin; refine wpL_app _ w1.heap.size rfl _ _ 22 33 rfl (.agg #[.string ByteArray.empty, .int .i64 0, .slice none 0 0, .slice none 0 0, .slice none 0 0]) 5 96 Try.underlying22 info_md md_zero_size (by decide) (by decide) u10 _ flat rfl (HOW.out.alloc _) (some ⟨_, 0, none⟩) 1 1 [.string m.nm, .int .i64 o, .slice B1 n1 d1, .slice B2 n2 d2, .slice B3 n3 d3] rfl (src_new_at _ _ _ _ _ rfl rfl (by simp [Value.oneCell'])) HLB.out (Nat.le_trans HBS.out (bel_alloc _ _).size) ?_; intro v10' wa ho10 hg10' hat10)
          have hg10 := grown_al W4 hg10' rfl rfl rfl rfl
          have HN := Box.mk (PC.out wa v10' (mvM x o m) _ rfl HE.out ho10 hg10 (fun b e h => h.1 e.symm))
          have HN2 := Box.mk (HN.out.weak rdMd (ok' := fun b => some b ≠ v10'.ownBlock) (fun b _ h e => by
            rcases hat10 with e2 | e2
            · exact h.1 (e.trans e2)
            · rw [e2] at e; injection e with e; have h3 := h.2.2; simp at e; omega))
          have HBn := Box.mk (HB4.out.grown hg10 HBS.out (fun q hq => (HOL.out q hq).1))
          go_roundw
          case rel => exact ⟨k + 1, by omega, by go_num, vb (by rw [HFN.out]), HBn, by rw [HTK.out]; exact HN2⟩
          case measure => simp [intOf] <;> omega
        · rw [decide_eq_false hnx] at hq
          have HNX : Box (¬ x = m.nm) := ⟨fun e => hnx e.symm⟩
          have HMV : Box (mvM x o m = setOv m.ov m) := ⟨by rw [mvM, if_neg hnx]; rfl⟩
          have HK4 := Box.mk (World.grownBy.refl W3 none)
          have HX4 := HX3
          clear hnx
          go_upto_region 15 with fail
          clear q0 q1 q2 q3 q4 f1 r0 hq
          generalize hW4 : W3 = W4 at *
          clear hW4
          have HR4 : Box (OwnO (fun b => some b ≠ u10.ownBlock ∧ b ≠ W2.heap.size ∧ b < W4.heap.size) W4 w1.heap.size 33 5 RMdO u10 ((ms.take k).map (mvM x o))) := ⟨by
            have a1 := (HR2.out.weak rdMd (ok' := fun b => some b ≠ u10.ownBlock ∧ b ≠ W2.heap.size ∧ b < W4.heap.size) (fun b hb h => ⟨h, by omega, by have := HK3.out.size; have := HK4.out.size; omega⟩)).kept rdMd HK3.out (by cases u10.ownBlock <;> simp) (fun b e => by cases e)
            exact a1.kept rdMd HK4.out (by
              cases hu : u10.ownBlock with
              | none => exact .inl rfl
              | some q => exact .inr (fun e => by have := (HL1.out q hu).2; have := HZ12.out; cases e)) (fun b e h => by cases e)⟩
          have HE : Box (RMdO (fun b => some b ≠ u10.ownBlock ∧ b ≠ W2.heap.size ∧ b < W4.heap.size) W4 (mvM x o m) [.string m.nm, .int .i64 m.ov, .slice B1 n1 d1, .slice B2 n2 d2, .slice B3 n3 d3]) := ⟨by
            have hw : ∀ b, b < W2.heap.size → W1.heap.size ≤ b → some b ≠ u10.ownBlock ∧ b ≠ W2.heap.size ∧ b < W4.heap.size := fun b hb h => ⟨fun e => by have := (HL1.out b e.symm).2; omega, by omega, by have := HK3.out.size; have := HK4.out.size; omega⟩
            have b1 := ((HSA.out.weak rdStr hw).kept rdStr HK3.out (fun b e => by cases e)).kept rdStr HK4.out (fun b e h => by cases e)
            have b2 := ((HSB.out.weak rdInt hw).kept rdInt HK3.out (fun b e => by cases e)).kept rdInt HK4.out (fun b e h => by cases e)
            have b3 := ((HSC.out.weak (rdSl rdStr) hw).kept (rdSl rdStr) HK3.out (fun b e => by cases e)).kept (rdSl rdStr) HK4.out (fun b e h => by cases e)
            rw [HMV.out]
            exact RMdO.mk' HNL.out b1 b2 b3 _⟩
          have HB4 := Box.mk (HB3.out.grown HK4.out HB3.out.size (fun q hq => by cases hq))
          have HBS : Box (w1.heap.size ≤ W4.heap.size) := ⟨HB4.out.size⟩
          have HOL := Box.mk HR4.out.lt
          obtain ⟨flat, how, hpc⟩ := HR4.out.opened rdMd
          have HOW := Box.mk how
          have PC := Box.mk hpc
          have HLB : Box ((((ms.take k).map (mvM x o)).length + 1) * 96 ≤ 140737488355328) := ⟨by have := HK32.out; omega⟩
          obtain ⟨q0, q1, q2, q3, q4, _⟩ := HX4.out.cells
          clear how hpc
          go_wp2_with (at_builtin; refine wpL_app _ w1.heap.size rfl _ _ 22 33 rfl (.agg #[.string ByteArray.empty, .int .i64 0, .slice none 0 0, .slice none 0 0, .slice none 0 0]) 5 96 Try.underlying22 info_md md_zero_size (by decide) (by decide) u10 _ flat rfl (HOW.out.alloc _) (some ⟨_, 0, none⟩) 1 1 [.string m.nm, .int .i64 m.ov, .slice B1 n1 d1, .slice B2 n2 d2, .slice B3 n3 d3] rfl (src_new_at _ _ _ _ _ rfl rfl (by simp [Value.oneCell'])) HLB.out (Nat.le_trans HBS.out (bel_alloc _ _).size) ?_; intro v10' wa ho10 hg10' hat10)
          have hg10 := grown_al W4 hg10' rfl rfl rfl rfl
          have HN := Box.mk (PC.out wa v10' (mvM x o m) _ rfl HE.out ho10 hg10 (fun b e h => h.1 e.symm))
          have HN2 := Box.mk (HN.out.weak rdMd (ok' := fun b => some b ≠ v10'.ownBlock) (fun b _ h e => by
            rcases hat10 with e2 | e2
            · exact h.1 (e.trans e2)
            · rw [e2] at e; injection e with e; have h3 := h.2.2; simp at e; omega))
          have HBn := Box.mk (HB4.out.grown hg10 HBS.out (fun q hq => (HOL.out q hq).1))
          go_roundw
          case rel => exact ⟨k + 1, by omega, by go_num, vb (by simp [HNM.out, HNX.out]), HBn, by rw [HTK.out]; exact HN2⟩
          case measure => simp [intOf] <;> omega
      · obtain rfl : k = n := by omega
        have e : ms.take k = ms := List.take_of_length_le (by rw [H.out.len]; exact Nat.le_refl _)
        rw [e] at HR ⊢
        obtain ⟨A', c', e', hs⟩ := HR.out.slr rdMd (by rw [List.length_map]; have := HG.out.len; rw [LIM_eq]; omega)
        have HS := Box.mk hs
        subst e'
        clear hs HR e
        by_cases hx : x ∈ namesOf ms
        · rw [decide_eq_true hx]
          rw [if_pos hx] at HO
          go_wp2_with fail
          go_ret2
          rw [HO.out]
          exact ⟨_, _, rfl, HS.out, HBw.out⟩
        · rw [decide_eq_false hx]
          rw [if_neg hx] at HO
          go_wp2_with fail
          go_ret2
          rw [HO.out]
          exact ⟨_, _, rfl, slr_nil _ _ _ _ _, HBw.out⟩
  · have HO : Box (mov ms x o = ([], V)) := ⟨by simp [mov, hv, h0]⟩
    have h0' : (V != 0) = true := by simpa using h0
    clear hv
    go_wp2_with fail
    go_ret2
    rw [HO.out]
    exact ⟨_, _, rfl, slr_nil _ _ _ _ _, HB1.out⟩
end Go.Proofs.Ytchhjldopecliaa
namespace Go.Proofs.Ytchhjldopecliaa
open Go.RowKit

theorem flatten_set : ∀ {css : List (List Value)} {sz : Nat}, (∀ cs ∈ css, cs.length = sz) → ∀ {i j : Nat} {cs : List Value} {u : Value}, css[i]? = some cs → j < sz → css.flatten.set (i * sz + j) u = (css.set i (cs.set j u)).flatten
  | [], _, _, _, _, _, _, h, _ => by simp at h
  | c :: r, sz, hl, 0, j, cs, u, h, hj => by
    obtain rfl : c = cs := by simpa using h
    have hc := hl c (List.mem_cons_self ..)
    rw [List.flatten_cons, Nat.zero_mul, Nat.zero_add, List.set_append_left _ _ (by omega)]
    rfl
  | c :: r, sz, hl, i + 1, j, cs, u, h, hj => by
    have hc := hl c (List.mem_cons_self ..)
    have hge : c.length ≤ (i + 1) * sz + j := by rw [hc, Nat.succ_mul]; omega
    rw [List.flatten_cons, List.set_append_right _ _ hge]
    have e : (i + 1) * sz + j - c.length = i * sz + j := by rw [hc, Nat.succ_mul]; omega
    rw [e, flatten_set (fun cs hcs => hl cs (List.mem_cons_of_mem _ hcs)) (by simpa using h) hj]
    rfl
theorem own_storeN {w : World} {base g n c q sz : Nat} {e : TypeId} {vs : List Value} (h : w.ownsRow base e sz (.slice (some ⟨g, 0, none⟩) n c) n vs) (u : Value) (_hq : q < n * sz) :
    (w.setCell ⟨g, q, none⟩ u).ownsRow base e sz (.slice (some ⟨g, 0, none⟩) n c) n (vs.set q u) ∧ w.grownBy (w.setCell ⟨g, q, none⟩ u) (some g) ∧ w.frozen? ⟨g, q, none⟩ = false := by
  rcases h.2 with ⟨h0, _⟩ | ⟨g', cap, cur, e1, hb, hg, hnc, hcm, hcs, ht⟩
  · cases h0
  · injection e1 with e1 _ e2
    injection e1 with e1
    injection e1 with e1
    subst e1 e2
    refine ⟨⟨by rw [List.length_set]; exact h.1, .inr ⟨g, c, cur.setIfInBounds q u, rfl, hb, ?_, hnc, hcm, by simpa using hcs, ?_⟩⟩, st_cell w g q u, by simp [World.frozen?, hg]⟩
    · simp [World.setCell, Array.getElem?_modify, hg]
    · rw [Array.toList_setIfInBounds, List.take_set, ht]
/-- The cells of a slice of modules. -/
theorem src_mds {w : World} {A : Option Addr} {n c : Nat} {xs : List Md} (h : SlR w 5 RMd A n c xs) :
    ∃ css : List (List Value), Src w A n 5 css.flatten ∧ css.length = n ∧ (∀ cs ∈ css, cs.length = 5) ∧ ∀ (i : Nat) (x : Md) (cs : List Value), xs[i]? = some x → css[i]? = some cs → RMd w x cs := by
  have h1 : ∀ i, i < n → ∃ cs : List Value, cs.length = 5 ∧ (∀ u ∈ cs, u.oneCell' = true) ∧ (∃ x, xs[i]? = some x ∧ RMd w x cs) ∧ ∃ b off, A = some ⟨b, off, none⟩ ∧ ∀ j u, cs[j]? = some u → w.cell? ⟨b, off + i * 5 + j, none⟩ = some u := by
    intro i hi
    obtain ⟨b, off, x, cs, e, hb, hx, hl, hr, hc⟩ := h.at_ i hi
    refine ⟨cs, hl, ?_, ⟨x, hx, hr⟩, b, off, e, hc⟩
    obtain ⟨_, _, _, _, _, _, _, _, _, rfl, _⟩ := hr
    simp [Value.oneCell']
  obtain ⟨css, hl, hcs⟩ := list_of h1
  have hlen : ∀ cs ∈ css, cs.length = 5 := fun cs hm => by
    obtain ⟨i, hi⟩ := List.mem_iff_getElem?.1 hm
    exact (hcs i cs hi).1
  have hfl : ∀ (css : List (List Value)), (∀ cs ∈ css, cs.length = 5) → css.flatten.length = css.length * 5 := by
    intro css
    induction css with
    | nil => intro _; rfl
    | cons a r ih =>
      intro h
      rw [List.flatten_cons, List.length_append, ih (fun x hx => h x (List.mem_cons_of_mem _ hx)), h a (List.mem_cons_self ..), List.length_cons]
      omega
  refine ⟨css, ⟨by rw [hfl css hlen, hl], fun hn => ?_, fun u hu => ?_⟩, hl, hlen, fun i x cs hx hc => ?_⟩
  · obtain ⟨cs0, hcs0⟩ : ∃ cs, css[0]? = some cs := ⟨_, List.getElem?_eq_getElem (by omega)⟩
    obtain ⟨_, _, _, b, off, e, _⟩ := hcs 0 cs0 hcs0
    refine ⟨_, e, fun q u hu => ?_⟩
    have hq : q < css.length * 5 := by rw [← hfl css hlen]; exact (List.getElem?_eq_some_iff.1 hu).1
    obtain ⟨cs, hi⟩ : ∃ cs, css[q / 5]? = some cs := ⟨_, List.getElem?_eq_getElem (by omega)⟩
    obtain ⟨hcl, _, _, b', off', e', hc⟩ := hcs _ cs hi
    rw [e] at e'
    injection e' with e'
    injection e' with e1 e2
    subst e1 e2
    obtain ⟨v, hv⟩ : ∃ v, cs[q % 5]? = some v := ⟨_, List.getElem?_eq_getElem (by rw [hcl]; omega)⟩
    have hfg := flatten_get hlen hi hv
    have eq : q / 5 * 5 + q % 5 = q := by omega
    rw [eq, hu] at hfg
    injection hfg with hfg
    subst hfg
    have := hc _ _ hv
    rw [addr_addq]
    have e3 : off + q / 5 * 5 + q % 5 = off + q := by omega
    rwa [e3] at this
  · obtain ⟨cs, hcm, hu⟩ := List.mem_flatten.1 hu
    obtain ⟨i, hi⟩ := List.mem_iff_getElem?.1 hcm
    exact (hcs i cs hi).2.1 u hu
  · obtain ⟨_, _, ⟨x', hx', hr⟩, _⟩ := hcs i cs hc
    rw [hx] at hx'
    injection hx' with hx'
    subst hx'
    exact hr

theorem mov_first {ms : List Md} (hn : (namesOf ms).Nodup) {i : Nat} {m : Md} (hm : ms[i]? = some m) (o : Int) : ms.set i (setOv o m) = ms.map (mvM m.nm o) := by
  apply List.ext_getElem?
  intro j
  rw [List.getElem?_set, List.getElem?_map]
  by_cases e : i = j
  · subst e
    have hl := (List.getElem?_eq_some_iff.1 hm).1
    rw [if_pos rfl, if_pos hl, hm]
    simp [mvM]
  · rw [if_neg e]
    cases hj : ms[j]? with
    | none => rfl
    | some q =>
      have : q.nm ≠ m.nm := by
        intro e2
        have e3 : (namesOf ms)[i]? = some m.nm := by unfold namesOf; rw [List.getElem?_map, hm]; rfl
        have e4 : (namesOf ms)[j]? = some m.nm := by unfold namesOf; rw [List.getElem?_map, hj]; simp [e2]
        exact e ((List.getElem?_inj (List.getElem?_eq_some_iff.1 e3).1 hn).1 (e3.trans e4.symm))
      simp [mvM, this]

set_option maxRecDepth 100000 in
set_option maxHeartbeats 4000000 in
theorem r_Move (A : Option Addr) (n c : Nat) (ms : List Md) (x : Str) (o : Int) (w : World) (h : SlR w 5 RMd A n c ms) :
    Calls Try.prog 35 #[.slice A n c, .string x, .int .i64 o] w fun e w' => ∃ A' c', e = .returned (.tuple #[.slice A' (mov ms x o).1.length c', .int .i64 (mov ms x o).2]) ∧ SlR w' 5 RMd A' (mov ms x o).1.length c' (mov ms x o).1 ∧ Below w.heap.size w w' := by
  have hlim := h.lim
  have H := Box.mk h
  clear h
  go_enter Try.func35, Try.ntmps35
  go_wp2_with fail
  refine (r_Validate A n c ms w H.out).mono ?_
  rintro e w1 ⟨rfl, hb1⟩
  have HB1 := Box.mk hb1
  clear hb1
  generalize hv : vld ms = V
  by_cases h0 : V = 0
  · subst h0
    have HG := Box.mk (vld_good hv)
    have HV := Box.mk hv
    clear hv
    by_cases ho1 : o < 0
    · have HO : Box (mov ms x o = ([], 1)) := ⟨by simp [mov, HV.out, ho1]⟩
      go_wp2_with fail
      go_ret2
      rw [HO.out]
      exact ⟨_, _, rfl, slr_nil _ _ _ _ _, HB1.out⟩
    by_cases ho2 : 15 < o
    · have HO : Box (mov ms x o = ([], 1)) := ⟨by simp [mov, HV.out, ho2]⟩
      go_wp2_with fail
      go_ret2
      rw [HO.out]
      exact ⟨_, _, rfl, slr_nil _ _ _ _ _, HB1.out⟩
    have HO : Box (mov ms x o = if x ∈ namesOf ms then (ms.map (mvM x o), 0) else ([], 4)) := ⟨by simp [mov, HV.out, ho1, ho2]⟩
    have hd1 : decide (o < 0) = false := by simp [ho1]
    have hd2 : decide (15 < o) = false := by simp [ho2]
    clear ho1 ho2
    obtain ⟨css, hsrc, hcl, hc5, hcr⟩ := src_mds H.out
    have HSR := Box.mk (hsrc.below HB1.out)
    have HCL := Box.mk hcl
    have HC5 := Box.mk hc5
    have HCR := Box.mk hcr
    have hn32 : n ≤ 32 := by rw [← H.out.len]; exact HG.out.len
    clear hsrc hcl hc5 hcr
    go_wp2_with (at_builtin; refine wpL_app _ w1.heap.size rfl _ _ 22 33 rfl (.agg #[.string ByteArray.empty, .int .i64 0, .slice none 0 0, .slice none 0 0, .slice none 0 0]) 5 96 Try.underlying22 info_md md_zero_size (by decide) (by decide) (.slice none 0 0) 0 [] rfl (World.ownsRow_nil _ _ _ _) A n c css.flatten rfl HSR.out (by omega) (Nat.le_refl _) ?_; intro v' wa ho hg hat)
    rw [Nat.zero_add, List.nil_append] at ho
    have HBa : Box (Below w.heap.size w wa) := ⟨below_tr HB1.out HB1.out.size ⟨hg.os, hg.tape, hg.output, hg.size, fun i hi => hg.block i hi (by simp [Value.ownBlock])⟩⟩
    obtain ⟨A', c', ev⟩ : ∃ A' c', v' = .slice A' n c' := by
      rcases ho.2 with ⟨e, e0⟩ | ⟨g, cap, cur, e, _⟩
      · exact ⟨none, 0, by rw [e, e0]⟩
      · exact ⟨_, cap, e⟩
    subst ev
    have HOW := Box.mk ho
    have HLOW := Box.mk HB1.out.size
    clear ho hg hat
    go_wp2_with fail
    go_loop [10] (fun i => ∃ k : Nat, k ≤ n ∧ i = .int .i64 k ∧ Box (x ∉ namesOf (ms.take k))) (fun i => n - (intOf i).toNat)
    case atStart => exact ⟨0, Nat.zero_le _, rfl, ⟨by simp [namesOf]⟩⟩
    case round =>
      obtain ⟨k, hk, rfl, HX⟩ := hrel
      by_cases hlt : k < n
      · obtain ⟨m, hm⟩ : ∃ m, ms[k]? = some m := ⟨_, List.getElem?_eq_getElem (by rw [H.out.len]; exact hlt)⟩
        obtain ⟨cs, hcs⟩ : ∃ cs, css[k]? = some cs := ⟨_, List.getElem?_eq_getElem (by rw [HCL.out]; exact hlt)⟩
        have hr := HCR.out k m cs hm hcs
        obtain ⟨A1, n1, c1, A2, n2, c2, A3, n3, c3, rfl, hnm, hr1, hr2, hr3⟩ := hr
        obtain ⟨g, rfl⟩ : ∃ g, A' = some ⟨g, 0, none⟩ := by
          rcases HOW.out.2 with ⟨_, h0⟩ | ⟨g, cap, cur, e, _⟩
          · omega
          · injection e with e; exact ⟨g, e⟩
        have hc0 : wa.cell? ⟨g, k * 5, none⟩ = some (.string m.nm) := by
          have := HOW.out.cells (g := g) rfl (k * 5 + 0) _ (flatten_get HC5.out hcs (j := 0) rfl)
          rwa [addr_addq, Nat.zero_add, Nat.add_zero] at this
        have hc1 : wa.cell? ⟨g, k * 5 + 1, none⟩ = some (.int .i64 m.ov) := by
          have := HOW.out.cells (g := g) rfl (k * 5 + 1) _ (flatten_get HC5.out hcs (j := 1) rfl)
          rwa [addr_addq, Nat.zero_add] at this
        obtain ⟨ho', hg', hf'⟩ := own_storeN HOW.out (.int .i64 o) (q := k * 5 + 1) (by omega)
        have hq : (ByteArray.toList m.nm == ByteArray.toList x) = decide (m.nm = x) := tleq m.nm x
        have hgl := HOW.out.lt g rfl
        by_cases hnx : m.nm = x
        · have HST : Box (css.flatten.set (k * 5 + 1) (.int .i64 o) = (css.set k [.string m.nm, .int .i64 o, .slice A1 n1 c1, .slice A2 n2 c2, .slice A3 n3 c3]).flatten) := ⟨by
            rw [flatten_set HC5.out hcs (by decide)]
            rfl⟩
          have HXN : Box (x ∈ namesOf ms) := ⟨by unfold namesOf; rw [← hnx]; exact List.mem_map_of_mem (List.mem_iff_getElem?.2 ⟨k, hm⟩)⟩
          have HMV : Box (ms.set k (setOv o m) = ms.map (mvM x o)) := ⟨by rw [mov_first HG.out.names hm, hnx]⟩
          have HRN : Box (RMd w (setOv o m) [.string m.nm, .int .i64 o, .slice A1 n1 c1, .slice A2 n2 c2, .slice A3 n3 c3]) := ⟨⟨A1, n1, c1, A2, n2, c2, A3, n3, c3, rfl, hnm, hr1, hr2, hr3⟩⟩
          have HO' := Box.mk ho'
          have HBn := Box.mk (HBa.out.grown hg' HBa.out.size (fun q hq => by injection hq with hq; have := HLOW.out; omega))
          have HCS := Box.mk hcs
          rw [decide_eq_true hnx] at hq
          clear ho' hg' hcs hm hnm hr1 hr2 hr3 hnx
          go_wp2_with fail
          go_ret2
          rw [HO.out, if_pos HXN.out]
          have hl : (ms.map (mvM x o)).length = n := by rw [List.length_map]; exact H.out.len
          have hOL : OwnL (wa.setCell ⟨g, k * 5 + 1, none⟩ (.int .i64 o)) w w1.heap.size 33 5 RMd (.slice (some ⟨g, 0, none⟩) n c') (ms.map (mvM x o)) := by
            refine ⟨css.set k [.string m.nm, .int .i64 o, .slice A1 n1 c1, .slice A2 n2 c2, .slice A3 n3 c3], ?_, fun cs hcm => ?_, ?_, fun i y cs hy hc => ?_⟩
            · rw [hl, ← HST.out]; exact HO'.out
            · rcases List.mem_or_eq_of_mem_set hcm with h1 | h1
              · exact HC5.out cs h1
              · rw [h1]; rfl
            · rw [List.length_set, hl, HCL.out]
            · rw [← HMV.out] at hy
              by_cases hik : k = i
              · subst hik
                rw [List.getElem?_set_self (by rw [H.out.len]; exact hlt)] at hy
                rw [List.getElem?_set_self (by rw [HCL.out]; exact hlt)] at hc
                injection hy with hy
                injection hc with hc
                subst hy hc
                exact HRN.out
              · rw [List.getElem?_set_ne hik] at hy hc
                exact HCR.out i y cs hy hc
          obtain ⟨A9, c9, e9, hs9⟩ := hOL.slr mono_md HBn.out (by rw [hl, LIM_eq]; omega)
          rw [hl] at e9
          exact ⟨A9, c9, by rw [hl, ← e9]; rfl, hs9, HBn.out⟩
        · have HNN : Box (x ∉ namesOf (ms.take (k + 1))) := ⟨by
            rw [namesOf_take hm, List.mem_append]
            rintro (h | h)
            · exact HX.out h
            · exact hnx (List.mem_singleton.1 h).symm⟩
          rw [decide_eq_false hnx] at hq
          clear ho' hg' hf' hcs hm hnm hr1 hr2 hr3 hnx hc1
          go_wp2_with fail
          go_round
          case rel => exact ⟨k + 1, by omega, by go_num, HNN⟩
          case measure => simp [intOf] <;> omega
      · obtain rfl : k = n := by omega
        rw [List.take_of_length_le (by rw [H.out.len]; exact Nat.le_refl _)] at HX
        go_wp2_with fail
        go_ret2
        rw [HO.out, if_neg HX.out]
        exact ⟨_, _, rfl, slr_nil _ _ _ _ _, HBa.out⟩
  · have HO : Box (mov ms x o = ([], V)) := ⟨by simp [mov, hv, h0]⟩
    have h0' : (V != 0) = true := by simpa using h0
    clear hv
    go_wp2_with fail
    go_ret2
    rw [HO.out]
    exact ⟨_, _, rfl, slr_nil _ _ _ _ _, HB1.out⟩
end Go.Proofs.Ytchhjldopecliaa
namespace Go.Proofs.Ytchhjldopecliaa
open Go.RowKit

theorem take_step {α : Type} {xs ys : List α} {k : Nat} {x y : α} (h : xs.take k = ys.take k) (hx : xs[k]? = some x) (hy : ys[k]? = some y) (e : x = y) : xs.take (k + 1) = ys.take (k + 1) := by
  rw [List.take_add_one, List.take_add_one, h, hx, hy, e]
theorem take_ne {α : Type} {xs ys : List α} {k : Nat} {x y : α} (hx : xs[k]? = some x) (hy : ys[k]? = some y) (e : x ≠ y) : xs ≠ ys := by
  rintro rfl
  rw [hx] at hy
  injection hy with hy
  exact e hy
theorem take_end {α : Type} {xs ys : List α} {k : Nat} (h : xs.take k = ys.take k) (hx : xs.length = k) (hy : ys.length = k) : xs = ys := by
  rw [List.take_of_length_le (by omega), List.take_of_length_le (by omega)] at h
  exact h
theorem ne_len {α : Type} {xs ys : List α} (h : xs.length ≠ ys.length) : xs ≠ ys := fun e => h (by rw [e])

set_option maxRecDepth 100000 in
set_option maxHeartbeats 1000000 in
theorem c_EqualStr (A : Option Addr) (n c : Nat) (xs : List Str) (B : Option Addr) (n' c' : Nat) (ys : List Str) (w : World) (h : SlR w 1 RStr A n c xs) (h' : SlR w 1 RStr B n' c' ys) :
    Calls Try.prog 74 #[.slice A n c, .slice B n' c'] w fun e w' => e = .returned (.bool (decide (xs = ys))) ∧ Below w.heap.size w w' := by
  have hlim := h.lim
  have hlim' := h'.lim
  have H := Box.mk h
  have H' := Box.mk h'
  clear h h'
  by_cases hnn : n = n'
  · subst hnn
    go_enter Try.func74, Try.ntmps74
    go_wp2_with fail
    go_loopw [5, 13] (fun _ i wr => ∃ k : Nat, k ≤ n ∧ i = .int .i64 k ∧ Box (xs.take k = ys.take k) ∧ Box (Below w.heap.size w wr)) (fun _ i _ => n - (intOf i).toNat)
    case atStart => exact ⟨0, Nat.zero_le _, rfl, ⟨by simp⟩, ⟨Below.refl _ _⟩⟩
    case round =>
      obtain ⟨k, hk, rfl, HE, HB⟩ := hrel
      by_cases hlt : k < n
      · obtain ⟨b, off, x, rfl, hb, hx, hs, hc⟩ := H.out.str_at k hlt
        obtain ⟨b2, off2, y, rfl, hb2, hy, hs2, hc2⟩ := H'.out.str_at k hlt
        replace hc := cellk HB.out hb hc
        replace hc2 := cellk HB.out hb2 hc2
        have HX := Box.mk hx
        have HY := Box.mk hy
        clear hx hy hs hs2
        by_cases hxy : x = y
        · have HXY := Box.mk hxy
          have hq : (ByteArray.toList x == ByteArray.toList y) = true := by rw [tleq]; simpa using hxy
          clear hxy
          go_upto_region 6 with fail
          go_quiet (fail)
          have HBq : Box (Below w.heap.size w (wr.drewN nq)) := ⟨⟨HB.out.os, HB.out.tape, HB.out.output, HB.out.size, HB.out.block⟩⟩
          go_wp2_with fail
          go_roundw
          case rel => exact ⟨k + 1, by omega, by go_num, ⟨take_step HE.out HX.out HY.out HXY.out⟩, HBq⟩
          case measure => simp [intOf] <;> omega
        · have HXY := Box.mk hxy
          have hq : (ByteArray.toList x == ByteArray.toList y) = false := by rw [tleq]; simpa using hxy
          clear hxy
          go_upto_region 6 with fail
          go_quiet (fail)
          have HBq : Box (Below w.heap.size w (wr.drewN nq)) := ⟨⟨HB.out.os, HB.out.tape, HB.out.output, HB.out.size, HB.out.block⟩⟩
          go_wp2_with fail
          go_ret
          exact ⟨rb (by simp [take_ne HX.out HY.out HXY.out]), HBq.out⟩
      · obtain rfl : k = n := by omega
        go_wp2_with fail
        go_ret
        exact ⟨rb (by simp [take_end HE.out H.out.len H'.out.len]), HB.out⟩
  · have HN : Box (xs ≠ ys) := ⟨ne_len (by rw [H.out.len, H'.out.len]; exact hnn)⟩
    have hq : ((n : Int) == (n' : Int)) = false := by rw [beq_eq_false_iff_ne]; omega
    go_enter Try.func74, Try.ntmps74
    go_wp2_with fail
    go_ret
    exact ⟨rb (by simp [HN.out]), Below.refl _ _⟩

set_option maxRecDepth 100000 in
set_option maxHeartbeats 1000000 in
theorem c_EqualInt (A : Option Addr) (n c : Nat) (xs : List Int) (B : Option Addr) (n' c' : Nat) (ys : List Int) (w : World) (h : SlR w 1 RInt A n c xs) (h' : SlR w 1 RInt B n' c' ys) :
    Calls Try.prog 75 #[.slice A n c, .slice B n' c'] w fun e w' => e = .returned (.bool (decide (xs = ys))) ∧ Below w.heap.size w w' := by
  have hlim := h.lim
  have hlim' := h'.lim
  have H := Box.mk h
  have H' := Box.mk h'
  clear h h'
  by_cases hnn : n = n'
  · subst hnn
    go_enter Try.func75, Try.ntmps75
    go_wp2_with fail
    go_loopw [5, 13] (fun _ i wr => ∃ k : Nat, k ≤ n ∧ i = .int .i64 k ∧ Box (xs.take k = ys.take k) ∧ Box (Below w.heap.size w wr)) (fun _ i _ => n - (intOf i).toNat)
    case atStart => exact ⟨0, Nat.zero_le _, rfl, ⟨by simp⟩, ⟨Below.refl _ _⟩⟩
    case round =>
      obtain ⟨k, hk, rfl, HE, HB⟩ := hrel
      by_cases hlt : k < n
      · obtain ⟨b, off, x, rfl, hb, hx, hc⟩ := H.out.int_at k hlt
        obtain ⟨b2, off2, y, rfl, hb2, hy, hc2⟩ := H'.out.int_at k hlt
        replace hc := cellk HB.out hb hc
        replace hc2 := cellk HB.out hb2 hc2
        have HX := Box.mk hx
        have HY := Box.mk hy
        clear hx hy
        by_cases hxy : x = y
        · have HXY := Box.mk hxy
          have hq : (x == y) = true := by simpa using hxy
          clear hxy
          go_upto_region 6 with fail
          go_quiet (fail)
          have HBq : Box (Below w.heap.size w (wr.drewN nq)) := ⟨⟨HB.out.os, HB.out.tape, HB.out.output, HB.out.size, HB.out.block⟩⟩
          go_wp2_with fail
          go_roundw
          case rel => exact ⟨k + 1, by omega, by go_num, ⟨take_step HE.out HX.out HY.out HXY.out⟩, HBq⟩
          case measure => simp [intOf] <;> omega
        · have HXY := Box.mk hxy
          have hq : (x == y) = false := by simpa using hxy
          clear hxy
          go_upto_region 6 with fail
          go_quiet (fail)
          have HBq : Box (Below w.heap.size w (wr.drewN nq)) := ⟨⟨HB.out.os, HB.out.tape, HB.out.output, HB.out.size, HB.out.block⟩⟩
          go_wp2_with fail
          go_ret
          exact ⟨rb (by simp [take_ne HX.out HY.out HXY.out]), HBq.out⟩
      · obtain rfl : k = n := by omega
        go_wp2_with fail
        go_ret
        exact ⟨rb (by simp [take_end HE.out H.out.len H'.out.len]), HB.out⟩
  · have HN : Box (xs ≠ ys) := ⟨ne_len (by rw [H.out.len, H'.out.len]; exact hnn)⟩
    have hq : ((n : Int) == (n' : Int)) = false := by rw [beq_eq_false_iff_ne]; omega
    go_enter Try.func75, Try.ntmps75
    go_wp2_with fail
    go_ret
    exact ⟨rb (by simp [HN.out]), Below.refl _ _⟩

set_option maxRecDepth 100000 in
set_option maxHeartbeats 1000000 in
theorem r_sameTexts (A : Option Addr) (n c : Nat) (xs : List Str) (B : Option Addr) (n' c' : Nat) (ys : List Str) (w : World) (h : SlR w 1 RStr A n c xs) (h' : SlR w 1 RStr B n' c' ys) :
    Calls Try.prog 70 #[.slice A n c, .slice B n' c'] w fun e w' => e = .returned (.bool (decide (xs = ys))) ∧ Below w.heap.size w w' := by
  have hlim := h.lim
  have hlim' := h'.lim
  have H := Box.mk h
  have H' := Box.mk h'
  clear h h'
  by_cases hnn : n = n'
  · subst hnn
    go_enter Try.func70, Try.ntmps70
    go_wp2_with fail
    go_loopw [5] (fun i wr => ∃ k : Nat, k ≤ n ∧ i = .int .i64 k ∧ Box (xs.take k = ys.take k) ∧ Box (Below w.heap.size w wr)) (fun i _ => n - (intOf i).toNat)
    case atStart => exact ⟨0, Nat.zero_le _, rfl, ⟨by simp⟩, ⟨Below.refl _ _⟩⟩
    case round =>
      obtain ⟨k, hk, rfl, HE, HB⟩ := hrel
      by_cases hlt : k < n
      · obtain ⟨b, off, x, rfl, hb, hx, hs, hc⟩ := H.out.str_at k hlt
        obtain ⟨b2, off2, y, rfl, hb2, hy, hs2, hc2⟩ := H'.out.str_at k hlt
        replace hc := cellk HB.out hb hc
        replace hc2 := cellk HB.out hb2 hc2
        have HX := Box.mk hx
        have HY := Box.mk hy
        clear hx hy hs hs2
        by_cases hxy : x = y
        · have HXY := Box.mk hxy
          have hq : (ByteArray.toList x == ByteArray.toList y) = true := by rw [tleq]; simpa using hxy
          clear hxy
          go_upto_region 6 with fail
          go_quiet (fail)
          have HBq : Box (Below w.heap.size w (wr.drewN nq)) := ⟨⟨HB.out.os, HB.out.tape, HB.out.output, HB.out.size, HB.out.block⟩⟩
          go_wp2_with fail
          go_roundw
          case rel => exact ⟨k + 1, by omega, by go_num, ⟨take_step HE.out HX.out HY.out HXY.out⟩, HBq⟩
          case measure => simp [intOf] <;> omega
        · have HXY := Box.mk hxy
          have hq : (ByteArray.toList x == ByteArray.toList y) = false := by rw [tleq]; simpa using hxy
          clear hxy
          go_upto_region 6 with fail
          go_quiet (fail)
          have HBq : Box (Below w.heap.size w (wr.drewN nq)) := ⟨⟨HB.out.os, HB.out.tape, HB.out.output, HB.out.size, HB.out.block⟩⟩
          go_wp2_with fail
          go_ret
          exact ⟨rb (by simp [take_ne HX.out HY.out HXY.out]), HBq.out⟩
      · obtain rfl : k = n := by omega
        go_wp2_with fail
        go_ret
        exact ⟨rb (by simp [take_end HE.out H.out.len H'.out.len]), HB.out⟩
  · have HN : Box (xs ≠ ys) := ⟨ne_len (by rw [H.out.len, H'.out.len]; exact hnn)⟩
    have hq : ((n : Int) == (n' : Int)) = false := by rw [beq_eq_false_iff_ne]; omega
    go_enter Try.func70, Try.ntmps70
    go_wp2_with fail
    go_ret
    exact ⟨rb (by simp [HN.out]), Below.refl _ _⟩
end Go.Proofs.Ytchhjldopecliaa
namespace Go.Proofs.Ytchhjldopecliaa
open Go.RowKit

theorem ent_EqualStr : ∀ args w, (callFunc 74 args).run Try.prog w = .ok (.enter 74 args) w := enters_of Try.func74 (by kernel_rfl) rfl

set_option maxRecDepth 100000 in
set_option maxHeartbeats 2000000 in
theorem c_EqualStrs (A : Option Addr) (n c : Nat) (xs : List (List Str)) (B : Option Addr) (n' c' : Nat) (ys : List (List Str)) (w : World) (h : SlR w 1 (RSl 1 RStr) A n c xs) (h' : SlR w 1 (RSl 1 RStr) B n' c' ys) :
    Calls Try.prog 76 #[.slice A n c, .slice B n' c', .func (.func 74) #[] #[]] w fun e w' => e = .returned (.bool (decide (xs = ys))) ∧ Below w.heap.size w w' := by
  have hlim := h.lim
  have hlim' := h'.lim
  have H := Box.mk h
  have H' := Box.mk h'
  clear h h'
  by_cases hnn : n = n'
  · subst hnn
    go_enter Try.func76, Try.ntmps76
    go_wp2_with fail
    go_loopw [7, 8, 9, 17] (fun _ _ _ i wr => ∃ k : Nat, k ≤ n ∧ i = .int .i64 k ∧ Box (xs.take k = ys.take k) ∧ Box (Below w.heap.size w wr)) (fun _ _ _ i _ => n - (intOf i).toNat)
    case atStart => exact ⟨0, Nat.zero_le _, rfl, ⟨by simp⟩, ⟨Below.refl _ _⟩⟩
    case round =>
      obtain ⟨k, hk, rfl, HE, HB⟩ := hrel
      by_cases hlt : k < n
      · obtain ⟨b, off, x, A1, n1, c1, rfl, hb, hx, hc, hs⟩ := H.out.sl_at k hlt
        obtain ⟨b2, off2, y, A2, n2, c2, rfl, hb2, hy, hc2, hs2⟩ := H'.out.sl_at k hlt
        replace hc := cellk HB.out hb hc
        replace hc2 := cellk HB.out hb2 hc2
        have HX := Box.mk hx
        have HY := Box.mk hy
        have HS := Box.mk hs
        have HS2 := Box.mk hs2
        have he := ent_EqualStr
        clear hx hy hs hs2
        go_wp2_with fail
        refine (c_EqualStr A1 n1 c1 x A2 n2 c2 y wr (HS.out.below mono_str HB.out) (HS2.out.below mono_str HB.out)).mono ?_
        rintro e w2 ⟨rfl, hb2⟩
        have HB2 := Box.mk (below_tr HB.out HB.out.size hb2)
        clear hb2 he
        by_cases hxy : x = y
        · have HXY := Box.mk hxy
          rw [decide_eq_true hxy]
          clear hxy
          go_wp2_with fail
          go_roundw
          case rel => exact ⟨k + 1, by omega, by go_num, ⟨take_step HE.out HX.out HY.out HXY.out⟩, HB2⟩
          case measure => simp [intOf] <;> omega
        · have HXY := Box.mk hxy
          rw [decide_eq_false hxy]
          clear hxy
          go_wp2_with fail
          go_ret
          exact ⟨rb (by simp [take_ne HX.out HY.out HXY.out]), HB2.out⟩
      · obtain rfl : k = n := by omega
        go_wp2_with fail
        go_ret
        exact ⟨rb (by simp [take_end HE.out H.out.len H'.out.len]), HB.out⟩
  · have HN : Box (xs ≠ ys) := ⟨ne_len (by rw [H.out.len, H'.out.len]; exact hnn)⟩
    have hq : ((n : Int) == (n' : Int)) = false := by rw [beq_eq_false_iff_ne]; omega
    go_enter Try.func76, Try.ntmps76
    go_wp2_with fail
    go_ret
    exact ⟨rb (by simp [HN.out]), Below.refl _ _⟩

open Classical in
/-- Are two modules equal? Are two lists of them? -/
noncomputable def eqMd (x y : Md) : Bool := decide (x = y)
open Classical in
noncomputable def eqMds (xs ys : List Md) : Bool := decide (xs = ys)
theorem eqMd_iff {x y : Md} : eqMd x y = true ↔ x = y := by
  unfold eqMd
  exact @decide_eq_true_iff _ (Classical.propDecidable _)
theorem eqMds_iff {x y : List Md} : eqMds x y = true ↔ x = y := by
  unfold eqMds
  simp
theorem eqMd_false {x y : Md} (h : x ≠ y) : eqMd x y = false := by
  rw [Bool.eq_false_iff]
  exact fun e => h (eqMd_iff.1 e)
theorem eqMds_false {x y : List Md} (h : x ≠ y) : eqMds x y = false := by
  rw [Bool.eq_false_iff]
  exact fun e => h (eqMds_iff.1 e)
theorem md_ext {x y : Md} (h1 : x.nm = y.nm) (h2 : x.ov = y.ov) (h3 : x.pr = y.pr) (h4 : x.sz = y.sz) (h5 : x.cl = y.cl) : x = y := by
  cases x; cases y; simp_all

set_option maxRecDepth 100000 in
set_option maxHeartbeats 4000000 in
theorem c_eqMd (x y : Md) (A1 : Option Addr) (n1 c1 : Nat) (A2 : Option Addr) (n2 c2 : Nat) (A3 : Option Addr) (n3 c3 : Nat) (B1 : Option Addr) (m1 d1 : Nat) (B2 : Option Addr) (m2 d2 : Nat) (B3 : Option Addr) (m3 d3 : Nat) (w : World) (h : MdIs w x A1 n1 c1 A2 n2 c2 A3 n3 c3) (h' : MdIs w y B1 m1 d1 B2 m2 d2 B3 m3 d3) :
    Calls Try.prog 73 #[.agg #[.string x.nm, .int .i64 x.ov, .slice A1 n1 c1, .slice A2 n2 c2, .slice A3 n3 c3], .agg #[.string y.nm, .int .i64 y.ov, .slice B1 m1 d1, .slice B2 m2 d2, .slice B3 m3 d3]] w fun e w' => e = .returned (.bool (eqMd x y)) ∧ Below w.heap.size w w' := by
  have H := Box.mk h
  have H' := Box.mk h'
  have HB0 : Box (Below w.heap.size w ((w.alloc (.cells #[.string x.nm, .int .i64 x.ov, .slice A1 n1 c1, .slice A2 n2 c2, .slice A3 n3 c3] 33)).alloc (.cells #[.string y.nm, .int .i64 y.ov, .slice B1 m1 d1, .slice B2 m2 d2, .slice B3 m3 d3] 33))) := ⟨bel_alloc2 (bel_alloc w _) _⟩
  have HM0 : Box (MdB ((w.alloc (.cells #[.string x.nm, .int .i64 x.ov, .slice A1 n1 c1, .slice A2 n2 c2, .slice A3 n3 c3] 33)).alloc (.cells #[.string y.nm, .int .i64 y.ov, .slice B1 m1 d1, .slice B2 m2 d2, .slice B3 m3 d3] 33)) w.heap.size x.nm x.ov (.slice A1 n1 c1) (.slice A2 n2 c2) (.slice A3 n3 c3)) := ⟨(Below.heap_alloc _ _ _ (by simp)).trans (heap_alloc_new w _)⟩
  have HM1 : Box (MdB ((w.alloc (.cells #[.string x.nm, .int .i64 x.ov, .slice A1 n1 c1, .slice A2 n2 c2, .slice A3 n3 c3] 33)).alloc (.cells #[.string y.nm, .int .i64 y.ov, .slice B1 m1 d1, .slice B2 m2 d2, .slice B3 m3 d3] 33)) (w.heap.size + 1) y.nm y.ov (.slice B1 m1 d1) (.slice B2 m2 d2) (.slice B3 m3 d3)) := ⟨by
    have e : w.heap.size + 1 = (w.alloc (.cells #[.string x.nm, .int .i64 x.ov, .slice A1 n1 c1, .slice A2 n2 c2, .slice A3 n3 c3] 33)).heap.size := by simp
    rw [e]
    exact MdB.new _ _ _ _ _ _⟩
  clear h h'
  go_enter Try.func73, Try.ntmps73
  go_upto_region 1 with fail
  generalize ((w.alloc (.cells #[.string x.nm, .int .i64 x.ov, .slice A1 n1 c1, .slice A2 n2 c2, .slice A3 n3 c3] 33)).alloc (.cells #[.string y.nm, .int .i64 y.ov, .slice B1 m1 d1, .slice B2 m2 d2, .slice B3 m3 d3] 33)) = W at *
  obtain ⟨q0, q1, q2, q3, q4, _⟩ := HM0.out.cells
  obtain ⟨r0, r1, r2, r3, r4, _⟩ := HM1.out.cells
  by_cases e0 : x.nm = y.nm
  case neg =>
    have hq : (ByteArray.toList x.nm == ByteArray.toList y.nm) = false := by rw [tleq]; simpa using e0
    have HN : Box (eqMd x y = false) := ⟨eqMd_false (fun e => e0 (by rw [e]))⟩
    clear e0
    go_wp2_with fail
    go_ret
    exact ⟨rb (by simp [HN.out]), HB0.out⟩
  have hq : (ByteArray.toList x.nm == ByteArray.toList y.nm) = true := by rw [tleq]; simpa using e0
  have E0 := Box.mk e0
  clear e0
  by_cases e1 : x.ov = y.ov
  case neg =>
    have hq1 : (x.ov == y.ov) = false := by simpa using e1
    have HN : Box (eqMd x y = false) := ⟨eqMd_false (fun e => e1 (by rw [e]))⟩
    clear e1
    go_wp2_with fail
    go_ret
    exact ⟨rb (by simp [HN.out]), HB0.out⟩
  have hq1 : (x.ov == y.ov) = true := by simpa using e1
  have E1 := Box.mk e1
  clear e1
  go_wp2_with fail
  refine (c_EqualStr A1 n1 c1 x.pr B1 m1 d1 y.pr W (H.out.pr.below mono_str HB0.out) (H'.out.pr.below mono_str HB0.out)).mono ?_
  rintro e w2 ⟨rfl, hb2⟩
  have HB2 := Box.mk (below_tr HB0.out HB0.out.size hb2)
  have HM02 := Box.mk ((hb2.block _ HM0.out.lt).trans HM0.out)
  have HM12 := Box.mk ((hb2.block _ HM1.out.lt).trans HM1.out)
  clear hb2 q0 q1 q2 q3 q4 r0 r1 r2 r3 r4
  obtain ⟨q0, q1, q2, q3, q4, _⟩ := MdB.cells HM02.out
  obtain ⟨r0, r1, r2, r3, r4, _⟩ := MdB.cells HM12.out
  by_cases e2 : x.pr = y.pr
  case neg =>
    have HN : Box (eqMd x y = false) := ⟨eqMd_false (fun e => e2 (by rw [e]))⟩
    rw [decide_eq_false e2]
    clear e2
    go_wp2_with fail
    go_ret
    exact ⟨rb (by simp [HN.out]), HB2.out⟩
  rw [decide_eq_true e2]
  have E2 := Box.mk e2
  clear e2
  go_wp2_with fail
  refine (c_EqualInt A2 n2 c2 x.sz B2 m2 d2 y.sz w2 (H.out.sz.below mono_int HB2.out) (H'.out.sz.below mono_int HB2.out)).mono ?_
  rintro e w3 ⟨rfl, hb3⟩
  have HB3 := Box.mk (below_tr HB2.out HB2.out.size hb3)
  have HM03 := Box.mk ((hb3.block _ (MdB.lt HM02.out)).trans HM02.out)
  have HM13 := Box.mk ((hb3.block _ (MdB.lt HM12.out)).trans HM12.out)
  clear hb3 q0 q1 q2 q3 q4 r0 r1 r2 r3 r4
  obtain ⟨q0, q1, q2, q3, q4, _⟩ := MdB.cells HM03.out
  obtain ⟨r0, r1, r2, r3, r4, _⟩ := MdB.cells HM13.out
  by_cases e3 : x.sz = y.sz
  case neg =>
    have HN : Box (eqMd x y = false) := ⟨eqMd_false (fun e => e3 (by rw [e]))⟩
    rw [decide_eq_false e3]
    clear e3
    go_wp2_with fail
    go_ret
    exact ⟨rb (by simp [HN.out]), HB3.out⟩
  rw [decide_eq_true e3]
  have E3 := Box.mk e3
  clear e3
  go_wp2_with fail
  refine (c_EqualStrs A3 n3 c3 x.cl B3 m3 d3 y.cl w3 (H.out.cl.below (mono_sl mono_str) HB3.out) (H'.out.cl.below (mono_sl mono_str) HB3.out)).mono ?_
  rintro e w4 ⟨rfl, hb4⟩
  have HB4 := Box.mk (below_tr HB3.out HB3.out.size hb4)
  clear hb4 q0 q1 q2 q3 q4 r0 r1 r2 r3 r4
  have HEQ : Box (eqMd x y = decide (x.cl = y.cl)) := ⟨by
    by_cases e4 : x.cl = y.cl
    · rw [decide_eq_true e4, eqMd_iff]
      exact md_ext E0.out E1.out E2.out E3.out e4
    · rw [decide_eq_false e4]
      exact eqMd_false (fun e => e4 (by rw [e]))⟩
  generalize decide (x.cl = y.cl) = q at *
  go_wp2_with fail
  go_ret
  exact ⟨rb (by rw [HEQ.out]), HB4.out⟩

theorem ent_eqMd : ∀ args w, (callFunc 73 args).run Try.prog w = .ok (.enter 73 args) w := enters_of Try.func73 (by kernel_rfl) rfl

set_option maxRecDepth 100000 in
set_option maxHeartbeats 4000000 in
theorem c_EqualMds (A : Option Addr) (n c : Nat) (xs : List Md) (B : Option Addr) (n' c' : Nat) (ys : List Md) (w : World) (h : SlR w 5 RMd A n c xs) (h' : SlR w 5 RMd B n' c' ys) :
    Calls Try.prog 72 #[.slice A n c, .slice B n' c', .func (.func 73) #[] #[]] w fun e w' => e = .returned (.bool (eqMds xs ys)) ∧ Below w.heap.size w w' := by
  have hlim := h.lim
  have hlim' := h'.lim
  have H := Box.mk h
  have H' := Box.mk h'
  clear h h'
  by_cases hnn : n = n'
  · subst hnn
    go_enter Try.func72, Try.ntmps72
    go_wp2_with fail
    go_loopw [7, 8, 9, 17] (fun _ _ _ i wr => ∃ k : Nat, k ≤ n ∧ i = .int .i64 k ∧ Box (xs.take k = ys.take k) ∧ Box (Below w.heap.size w wr)) (fun _ _ _ i _ => n - (intOf i).toNat)
    case atStart => exact ⟨0, Nat.zero_le _, rfl, ⟨by simp⟩, ⟨Below.refl _ _⟩⟩
    case round =>
      obtain ⟨k, hk, rfl, HE, HB⟩ := hrel
      by_cases hlt : k < n
      · obtain ⟨b, off, x, A1, n1, c1, A2, n2, c2, A3, n3, c3, rfl, hb, hx, hX, h0, h1, h2, h3, h4⟩ := H.out.md_at k hlt
        obtain ⟨b2, off2, y, B1, m1, d1, B2, m2, d2, B3, m3, d3, rfl, hb2, hy, hY, g0, g1, g2, g3, g4⟩ := H'.out.md_at k hlt
        replace h0 := cellk HB.out hb h0
        replace h1 := cellk HB.out hb h1
        replace h2 := cellk HB.out hb h2
        replace h3 := cellk HB.out hb h3
        replace h4 := cellk HB.out hb h4
        replace g0 := cellk HB.out hb2 g0
        replace g1 := cellk HB.out hb2 g1
        replace g2 := cellk HB.out hb2 g2
        replace g3 := cellk HB.out hb2 g3
        replace g4 := cellk HB.out hb2 g4
        have HX := Box.mk hx
        have HY := Box.mk hy
        have HXX := Box.mk hX
        have HYY := Box.mk hY
        have he := ent_eqMd
        have hbl := HB.out.size
        have hblt : b2 < wr.heap.size := by omega
        clear hx hy hX hY
        go_wp2_with fail
        have HBW : Box (Below w.heap.size w ((wr.alloc (.cells #[.string x.nm, .int .i64 x.ov, .slice A1 n1 c1, .slice A2 n2 c2, .slice A3 n3 c3] 33)).alloc (.cells #[.string y.nm, .int .i64 y.ov, .slice B1 m1 d1, .slice B2 m2 d2, .slice B3 m3 d3] 33))) := ⟨bel_alloc2 (bel_alloc2 HB.out _) _⟩
        refine (c_eqMd x y A1 n1 c1 A2 n2 c2 A3 n3 c3 B1 m1 d1 B2 m2 d2 B3 m3 d3 _ (HXX.out.below HBW.out) (HYY.out.below HBW.out)).mono ?_
        rintro e w2 ⟨rfl, hb2⟩
        have HB2 := Box.mk (below_tr HBW.out HBW.out.size hb2)
        clear hb2 he HBW
        by_cases hxy : x = y
        · have HXY := Box.mk hxy
          rw [eqMd_iff.2 hxy]
          clear hxy
          go_wp2_with fail
          go_roundw
          case rel => exact ⟨k + 1, by omega, by go_num, ⟨take_step HE.out HX.out HY.out HXY.out⟩, HB2⟩
          case measure => simp [intOf] <;> omega
        · have HXY := Box.mk hxy
          rw [eqMd_false hxy]
          clear hxy
          go_wp2_with fail
          go_ret
          exact ⟨rb (by simp [eqMds_false (take_ne HX.out HY.out HXY.out)]), HB2.out⟩
      · obtain rfl : k = n := by omega
        go_wp2_with fail
        go_ret
        exact ⟨rb (by simp [eqMds_iff.2 (take_end HE.out H.out.len H'.out.len)]), HB.out⟩
  · have HN : Box (xs ≠ ys) := ⟨ne_len (by rw [H.out.len, H'.out.len]; exact hnn)⟩
    have hq : ((n : Int) == (n' : Int)) = false := by rw [beq_eq_false_iff_ne]; omega
    go_enter Try.func72, Try.ntmps72
    go_wp2_with fail
    go_ret
    exact ⟨rb (by simp [eqMds_false HN.out]), Below.refl _ _⟩

theorem c_Same (A : Option Addr) (n c : Nat) (xs : List Md) (B : Option Addr) (n' c' : Nat) (ys : List Md) (w : World) (h : SlR w 5 RMd A n c xs) (h' : SlR w 5 RMd B n' c' ys) :
    Calls Try.prog 36 #[.slice A n c, .slice B n' c'] w fun e w' => e = .returned (.bool (eqMds xs ys)) ∧ Below w.heap.size w w' := by
  have C := Box.mk (c_EqualMds A n c xs B n' c' ys w h h')
  clear h h'
  generalize eqMds xs ys = q at *
  go_enter Try.func36, Try.ntmps36
  go_wp2_with fail
  refine C.out.mono ?_
  rintro e w2 ⟨rfl, hb2⟩
  have HB2 := Box.mk hb2
  clear hb2
  go_wp2_with fail
  go_ret
  exact ⟨rfl, HB2.out⟩
end Go.Proofs.Ytchhjldopecliaa
namespace Go.Proofs.Ytchhjldopecliaa
open Go.RowKit

theorem md1 (w : World) (o' : Obj) (nm : Str) (o : Int) (s1 s2 s3 : Value) : MdB ((w.alloc (.cells #[.string nm, .int .i64 o, s1, s2, s3] 33)).alloc o') w.heap.size nm o s1 s2 s3 := (Below.heap_alloc _ _ _ (by simp)).trans (heap_alloc_new w _)
theorem md2 (w : World) (o' : Obj) (nm : Str) (o : Int) (s1 s2 s3 : Value) : MdB ((w.alloc o').alloc (.cells #[.string nm, .int .i64 o, s1, s2, s3] 33)) (w.heap.size + 1) nm o s1 s2 s3 := by
  have e : w.heap.size + 1 = (w.alloc o').heap.size := by simp
  rw [e]
  exact MdB.new _ _ _ _ _ _

set_option maxRecDepth 100000 in
set_option maxHeartbeats 8000000 in
theorem r_Same (A : Option Addr) (n c : Nat) (xs : List Md) (B : Option Addr) (n' c' : Nat) (ys : List Md) (w : World) (h : SlR w 5 RMd A n c xs) (h' : SlR w 5 RMd B n' c' ys) :
    Calls Try.prog 33 #[.slice A n c, .slice B n' c'] w fun e w' => e = .returned (.bool (eqMds xs ys)) ∧ Below w.heap.size w w' := by
  have hlim := h.lim
  have hlim' := h'.lim
  have H := Box.mk h
  have H' := Box.mk h'
  clear h h'
  by_cases hnn : n = n'
  case neg =>
    have HN : Box (xs ≠ ys) := ⟨ne_len (by rw [H.out.len, H'.out.len]; exact hnn)⟩
    have hq : ((n : Int) == (n' : Int)) = false := by rw [beq_eq_false_iff_ne]; omega
    go_enter Try.func33, Try.ntmps33
    go_wp2_with fail
    go_ret
    exact ⟨rb (by simp [eqMds_false HN.out]), Below.refl _ _⟩
  subst hnn
  go_enter Try.func33, Try.ntmps33
  go_wp2_with fail
  go_loopw [5, 6, 7, 8, 9] (fun i _ _ _ _ wr => ∃ k : Nat, k ≤ n ∧ i = .int .i64 k ∧ Box (xs.take k = ys.take k) ∧ Box (Below w.heap.size w wr)) (fun i _ _ _ _ _ => n - (intOf i).toNat)
  case atStart => exact ⟨0, Nat.zero_le _, rfl, ⟨by simp⟩, ⟨Below.refl _ _⟩⟩
  case round =>
    obtain ⟨k, hk, rfl, HE, HB⟩ := hrel
    by_cases hlt : k < n
    · obtain ⟨b, off, x, A1, n1, c1, A2, n2, c2, A3, n3, c3, rfl, hb, hx, hX, h0, h1, h2, h3, h4⟩ := H.out.md_at k hlt
      obtain ⟨b2, off2, y, B1, m1, d1, B2, m2, d2, B3, m3, d3, rfl, hb2, hy, hY, g0, g1, g2, g3, g4⟩ := H'.out.md_at k hlt
      replace h0 := cellk HB.out hb h0
      replace h1 := cellk HB.out hb h1
      replace h2 := cellk HB.out hb h2
      replace h3 := cellk HB.out hb h3
      replace h4 := cellk HB.out hb h4
      replace g0 := cellk HB.out hb2 g0
      replace g1 := cellk HB.out hb2 g1
      replace g2 := cellk HB.out hb2 g2
      replace g3 := cellk HB.out hb2 g3
      replace g4 := cellk HB.out hb2 g4
      have HX := Box.mk hx
      have HY := Box.mk hy
      have HXX := Box.mk hX
      have HYY := Box.mk hY
      have hbl := HB.out.size
      have ne1 : ¬ wr.heap.size = b := by omega
      have ne2 : ¬ wr.heap.size + 1 = b := by omega
      have ne3 : ¬ wr.heap.size = b2 := by omega
      have ne4 : ¬ wr.heap.size + 1 = b2 := by omega
      clear hx hy hX hY
      go_upto_region 6 with fail
      go_cut [6, 7] (fun v6 v7 wx => ∃ p6 p7, v6 = .pointer (some ⟨p6, 0, none⟩) ∧ v7 = .pointer (some ⟨p7, 0, none⟩) ∧ Box (MdB wx p6 x.nm x.ov (.slice A1 n1 c1) (.slice A2 n2 c2) (.slice A3 n3 c3)) ∧ Box (MdB wx p7 y.nm y.ov (.slice B1 m1 d1) (.slice B2 m2 d2) (.slice B3 m3 d3)) ∧ Box (Below w.heap.size w wx))
      case first =>
        go_region_held3 (fun W : World => W.cell? ⟨b, off + k * 5, none⟩ = some (.string x.nm) ∧ W.cell? ⟨b, off + k * 5 + 1, none⟩ = some (.int .i64 x.ov) ∧ W.cell? ⟨b, off + k * 5 + 2, none⟩ = some (.slice A1 n1 c1) ∧ W.cell? ⟨b, off + k * 5 + 3, none⟩ = some (.slice A2 n2 c2) ∧ W.cell? ⟨b, off + k * 5 + 4, none⟩ = some (.slice A3 n3 c3) ∧
          W.cell? ⟨b2, off2 + k * 5, none⟩ = some (.string y.nm) ∧ W.cell? ⟨b2, off2 + k * 5 + 1, none⟩ = some (.int .i64 y.ov) ∧ W.cell? ⟨b2, off2 + k * 5 + 2, none⟩ = some (.slice B1 m1 d1) ∧ W.cell? ⟨b2, off2 + k * 5 + 3, none⟩ = some (.slice B2 m2 d2) ∧ W.cell? ⟨b2, off2 + k * 5 + 4, none⟩ = some (.slice B3 m3 d3))
          (go_keep) (fail)
        all_goals
          have HBa : Box (Below w.heap.size w ((wr.alloc (.cells #[.string x.nm, .int .i64 x.ov, .slice A1 n1 c1, .slice A2 n2 c2, .slice A3 n3 c3] 33)).alloc (.cells #[.string y.nm, .int .i64 y.ov, .slice B1 m1 d1, .slice B2 m2 d2, .slice B3 m3 d3] 33)).drew) := ⟨by have h := bel_alloc2 (bel_alloc2 HB.out (.cells #[.string x.nm, .int .i64 x.ov, .slice A1 n1 c1, .slice A2 n2 c2, .slice A3 n3 c3] 33)) (.cells #[.string y.nm, .int .i64 y.ov, .slice B1 m1 d1, .slice B2 m2 d2, .slice B3 m3 d3] 33); exact ⟨h.os, h.tape, h.output, h.size, h.block⟩⟩
          have HBb : Box (Below w.heap.size w ((wr.alloc (.cells #[.string y.nm, .int .i64 y.ov, .slice B1 m1 d1, .slice B2 m2 d2, .slice B3 m3 d3] 33)).alloc (.cells #[.string x.nm, .int .i64 x.ov, .slice A1 n1 c1, .slice A2 n2 c2, .slice A3 n3 c3] 33)).drew) := ⟨by have h := bel_alloc2 (bel_alloc2 HB.out (.cells #[.string y.nm, .int .i64 y.ov, .slice B1 m1 d1, .slice B2 m2 d2, .slice B3 m3 d3] 33)) (.cells #[.string x.nm, .int .i64 x.ov, .slice A1 n1 c1, .slice A2 n2 c2, .slice A3 n3 c3] 33); exact ⟨h.os, h.tape, h.output, h.size, h.block⟩⟩
          have M1 := md1 wr (.cells #[.string y.nm, .int .i64 y.ov, .slice B1 m1 d1, .slice B2 m2 d2, .slice B3 m3 d3] 33) x.nm x.ov (.slice A1 n1 c1) (.slice A2 n2 c2) (.slice A3 n3 c3)
          have M2 := md2 wr (.cells #[.string x.nm, .int .i64 x.ov, .slice A1 n1 c1, .slice A2 n2 c2, .slice A3 n3 c3] 33) y.nm y.ov (.slice B1 m1 d1) (.slice B2 m2 d2) (.slice B3 m3 d3)
          have N1 := md1 wr (.cells #[.string x.nm, .int .i64 x.ov, .slice A1 n1 c1, .slice A2 n2 c2, .slice A3 n3 c3] 33) y.nm y.ov (.slice B1 m1 d1) (.slice B2 m2 d2) (.slice B3 m3 d3)
          have N2 := md2 wr (.cells #[.string y.nm, .int .i64 y.ov, .slice B1 m1 d1, .slice B2 m2 d2, .slice B3 m3 d3] 33) x.nm x.ov (.slice A1 n1 c1) (.slice A2 n2 c2) (.slice A3 n3 c3)
          have M1 := Box.mk M1
          have M2 := Box.mk M2
          have N1 := Box.mk N1
          have N2 := Box.mk N2
          go_wp2_with fail
          go_meet
          first
            | exact ⟨_, _, rfl, rfl, ⟨M1.out⟩, ⟨M2.out⟩, HBa⟩
            | exact ⟨_, _, rfl, rfl, ⟨N2.out⟩, ⟨N1.out⟩, HBb⟩
      case rest =>
        obtain ⟨p6, p7, rfl, rfl, HM6, HM7, HBc⟩ := hcut
        clear h0 h1 h2 h3 h4 g0 g1 g2 g3 g4 HB ne1 ne2 ne3 ne4
        obtain ⟨q0, q1, q2, q3, q4, _⟩ := HM6.out.cells
        obtain ⟨r0, r1, r2, r3, r4, _⟩ := HM7.out.cells
        have HNE : Box (x ≠ y → eqMds xs ys = false) := ⟨fun e => eqMds_false (take_ne HX.out HY.out e)⟩
        by_cases e0 : x.nm = y.nm
        case neg =>
          have hq : (ByteArray.toList x.nm == ByteArray.toList y.nm) = false := by rw [tleq]; simpa using e0
          have HN := Box.mk (HNE.out (fun e => e0 (by rw [e])))
          clear e0
          go_wp2_with fail
          go_ret
          exact ⟨rb (by simp [HN.out]), HBc.out⟩
        have hq : (ByteArray.toList x.nm == ByteArray.toList y.nm) = true := by rw [tleq]; simpa using e0
        have E0 := Box.mk e0
        clear e0
        by_cases e1 : x.ov = y.ov
        case neg =>
          have hq1 : (x.ov == y.ov) = false := by simpa using e1
          have hq1' : (x.ov != y.ov) = true := by simpa using e1
          have HN := Box.mk (HNE.out (fun e => e1 (by rw [e])))
          clear e1
          go_wp2_with fail
          go_ret
          exact ⟨rb (by simp [HN.out]), HBc.out⟩
        have hq1 : (x.ov == y.ov) = true := by simpa using e1
        have hq1' : (x.ov != y.ov) = false := by simpa using e1
        have E1 := Box.mk e1
        clear e1
        have hl2 := HXX.out.sz.lim
        have hl3 := HXX.out.cl.lim
        have gl2 := HYY.out.sz.lim
        have gl3 := HYY.out.cl.lim
        go_wp2_with fail
        refine (r_sameTexts A1 n1 c1 x.pr B1 m1 d1 y.pr wc (HXX.out.pr.below mono_str HBc.out) (HYY.out.pr.below mono_str HBc.out)).mono ?_
        rintro e w2 ⟨rfl, hb2⟩
        have HB2 := Box.mk (below_tr HBc.out HBc.out.size hb2)
        have HM62 := Box.mk (HM6.out.kp (below_gb hb2 none) (by simp))
        have HM72 := Box.mk (HM7.out.kp (below_gb hb2 none) (by simp))
        clear hb2 q0 q1 q2 q3 q4 r0 r1 r2 r3 r4
        obtain ⟨q0, q1, q2, q3, q4, _⟩ := HM62.out.cells
        obtain ⟨r0, r1, r2, r3, r4, _⟩ := HM72.out.cells
        by_cases e2 : x.pr = y.pr
        case neg =>
          have HN := Box.mk (HNE.out (fun e => e2 (by rw [e])))
          rw [decide_eq_false e2]
          clear e2
          go_wp2_with fail
          go_ret
          exact ⟨rb (by simp [HN.out]), HB2.out⟩
        rw [decide_eq_true e2]
        have E2 := Box.mk e2
        clear e2
        by_cases e3 : n2 = m2
        case neg =>
          have hq3 : ((n2 : Int) == (m2 : Int)) = false := by rw [beq_eq_false_iff_ne]; omega
          have hq3' : ((n2 : Int) != (m2 : Int)) = true := by rw [bne, hq3]; rfl
          have HN := Box.mk (HNE.out (fun e => e3 (by rw [← HXX.out.sz.len, ← HYY.out.sz.len, e])))
          go_wp2_with fail
          go_ret
          exact ⟨rb (by simp [HN.out]), HB2.out⟩
        subst e3
        by_cases e4 : n3 = m3
        case neg =>
          have hq3 : ((n3 : Int) == (m3 : Int)) = false := by rw [beq_eq_false_iff_ne]; omega
          have hq3' : ((n3 : Int) != (m3 : Int)) = true := by rw [bne, hq3]; rfl
          have HN := Box.mk (HNE.out (fun e => e4 (by rw [← HXX.out.cl.len, ← HYY.out.cl.len, e])))
          go_wp2_with fail
          go_ret
          exact ⟨rb (by simp [HN.out]), HB2.out⟩
        subst e4
        go_wp2_with fail
        go_loopw [8] (fun i wx => ∃ j : Nat, j ≤ n2 ∧ i = .int .i64 j ∧ Box (x.sz.take j = y.sz.take j) ∧ Box (Below w2.heap.size w2 wx)) (fun i _ => n2 - (intOf i).toNat)
        case atStart => exact ⟨0, Nat.zero_le _, rfl, ⟨by simp⟩, ⟨Below.refl _ _⟩⟩
        case round =>
          obtain ⟨j, hj, rfl, HF, HBx⟩ := hrel
          have HB3 := Box.mk (below_tr HB2.out HB2.out.size HBx.out)
          have HM63 := Box.mk (HM62.out.kp (below_gb HBx.out none) (by simp))
          have HM73 := Box.mk (HM72.out.kp (below_gb HBx.out none) (by simp))
          clear q0 q1 q2 q3 q4 r0 r1 r2 r3 r4
          obtain ⟨q0, q1, q2, q3, q4, _⟩ := HM63.out.cells
          obtain ⟨r0, r1, r2, r3, r4, _⟩ := HM73.out.cells
          by_cases hjl : j < n2
          · obtain ⟨b5, o5, u, rfl, hb5, hu, hc5⟩ := HXX.out.sz.int_at j hjl
            obtain ⟨b6, o6, v, rfl, hb6, hv, hc6⟩ := HYY.out.sz.int_at j hjl
            replace hc5 := cellk HB3.out hb5 hc5
            replace hc6 := cellk HB3.out hb6 hc6
            have HU := Box.mk hu
            have HV := Box.mk hv
            clear hu hv
            by_cases huv : u = v
            · have HUV := Box.mk huv
              have hq5 : (u == v) = true := by simpa using huv
              have hq5' : (u != v) = false := by simpa using huv
              clear huv
              go_upto_region 12 with fail
              go_quiet (fail)
              have HBq : Box (Below w2.heap.size w2 (wr.drewN nq)) := ⟨⟨HBx.out.os, HBx.out.tape, HBx.out.output, HBx.out.size, HBx.out.block⟩⟩
              go_wp2_with fail
              go_roundw
              case rel => exact ⟨j + 1, by omega, by go_num, ⟨take_step HF.out HU.out HV.out HUV.out⟩, HBq⟩
              case measure => simp [intOf] <;> omega
            · have HN := Box.mk (HNE.out (fun e => take_ne HU.out HV.out huv (by rw [e])))
              have hq5 : (u == v) = false := by simpa using huv
              have hq5' : (u != v) = true := by simpa using huv
              clear huv
              go_upto_region 12 with fail
              go_quiet (fail)
              have HBq : Box (Below w.heap.size w (wr.drewN nq)) := ⟨⟨HB3.out.os, HB3.out.tape, HB3.out.output, HB3.out.size, HB3.out.block⟩⟩
              go_wp2_with fail
              go_ret
              exact ⟨rb (by simp [HN.out]), HBq.out⟩
          · obtain rfl : j = n2 := by omega
            have E3 := Box.mk (take_end HF.out HXX.out.sz.len HYY.out.sz.len)
            go_wp2_with fail
            clear q0 q1 q2 q3 q4 r0 r1 r2 r3 r4
            generalize hwb : wr = wb at *
            clear hwb
            go_loopw [9] (fun i wx => ∃ t : Nat, t ≤ n3 ∧ i = .int .i64 t ∧ Box (x.cl.take t = y.cl.take t) ∧ Box (Below wb.heap.size wb wx)) (fun i _ => n3 - (intOf i).toNat)
            case atStart => exact ⟨0, Nat.zero_le _, rfl, ⟨by simp⟩, ⟨Below.refl _ _⟩⟩
            case round =>
              obtain ⟨t, ht, rfl, HG, HBy⟩ := hrel
              have HB4 := Box.mk (below_tr HB3.out HB3.out.size HBy.out)
              have HM64 := Box.mk (HM63.out.kp (below_gb HBy.out none) (by simp))
              have HM74 := Box.mk (HM73.out.kp (below_gb HBy.out none) (by simp))
              obtain ⟨q0, q1, q2, q3, q4, _⟩ := HM64.out.cells
              obtain ⟨r0, r1, r2, r3, r4, _⟩ := HM74.out.cells
              by_cases htl : t < n3
              · obtain ⟨b5, o5, u, A', n', c'', rfl, hb5, hu, hc5, hsu⟩ := HXX.out.cl.sl_at t htl
                obtain ⟨b6, o6, v, B', m', d', rfl, hb6, hv, hc6, hsv⟩ := HYY.out.cl.sl_at t htl
                have HC := Box.mk (And.intro hb5 (And.intro hc5 (And.intro hb6 hc6)))
                replace hc5 := cellk HB4.out hb5 hc5
                replace hc6 := cellk HB4.out hb6 hc6
                have HU := Box.mk hu
                have HV := Box.mk hv
                have HS0 : Box (wr.drew.cell? ⟨p6, 4, none⟩ = some (.slice (some ⟨b5, o5, none⟩) n3 c3) ∧ wr.drew.cell? ⟨b5, o5 + t, none⟩ = some (.slice A' n' c'') ∧ wr.drew.cell? ⟨p7, 4, none⟩ = some (.slice (some ⟨b6, o6, none⟩) n3 d3) ∧ wr.drew.cell? ⟨b6, o6 + t, none⟩ = some (.slice B' m' d')) := ⟨⟨q4, hc5, r4, hc6⟩⟩
                have HBd : Box (Below w.heap.size w wr.drew) := ⟨⟨HB4.out.os, HB4.out.tape, HB4.out.output, HB4.out.size, HB4.out.block⟩⟩
                have CT := Box.mk (r_sameTexts A' n' c'' u B' m' d' v wr.drew (hsu.below mono_str HBd.out) (hsv.below mono_str HBd.out))
                have HMd6 : Box (MdB wr.drew p6 x.nm x.ov (.slice A1 n1 c1) (.slice A2 j c2) (.slice (some ⟨b5, o5, none⟩) n3 c3)) := ⟨HM64.out⟩
                have HMd7 : Box (MdB wr.drew p7 y.nm y.ov (.slice B1 m1 d1) (.slice B2 j d2) (.slice (some ⟨b6, o6, none⟩) n3 d3)) := ⟨HM74.out⟩
                have HByd : Box (Below wb.heap.size wb wr.drew) := ⟨⟨HBy.out.os, HBy.out.tape, HBy.out.output, HBy.out.size, HBy.out.block⟩⟩
                clear hu hv hsu hsv
                go_upto_region 17 with fail
                clear q0 q1 q2 q3 q4 r0 r1 r2 r3 r4 hc5 hc6
                go_region_held3 (fun W : World => W.cell? ⟨p6, 4, none⟩ = some (.slice (some ⟨b5, o5, none⟩) n3 c3) ∧ W.cell? ⟨b5, o5 + t, none⟩ = some (.slice A' n' c'') ∧ W.cell? ⟨p7, 4, none⟩ = some (.slice (some ⟨b6, o6, none⟩) n3 d3) ∧ W.cell? ⟨b6, o6 + t, none⟩ = some (.slice B' m' d'))
                  (with_reducible first | exact HS0.out | exact HS1.out)
                  (first
                    | (go_at_call 70; refine CT.out.mono ?_; rintro e w5 ⟨rfl, hb5'⟩; have HB5 := Box.mk (below_tr HBd.out HBd.out.size hb5'); have HBy5 := Box.mk (below_tr HByd.out HByd.out.size hb5'); have HS1 : Box (w5.cell? ⟨p6, 4, none⟩ = some (.slice (some ⟨b5, o5, none⟩) n3 c3) ∧ w5.cell? ⟨b5, o5 + t, none⟩ = some (.slice A' n' c'') ∧ w5.cell? ⟨p7, 4, none⟩ = some (.slice (some ⟨b6, o6, none⟩) n3 d3) ∧ w5.cell? ⟨b6, o6 + t, none⟩ = some (.slice B' m' d')) := ⟨⟨(HMd6.out.kp (below_gb hb5' none) (by simp)).cells.2.2.2.2.1, cellk HB5.out HC.out.1 HC.out.2.1, (HMd7.out.kp (below_gb hb5' none) (by simp)).cells.2.2.2.2.1, cellk HB5.out HC.out.2.2.1 HC.out.2.2.2⟩⟩; clear hb5'))
                by_cases huv : u = v
                · have HUV := Box.mk huv
                  rw [decide_eq_true huv]
                  clear huv
                  go_wp2_with fail
                  refine ⟨⟨t + 1, by omega, by go_num, ⟨take_step HG.out HU.out HV.out HUV.out⟩, HBy5⟩, ?_⟩
                  simp [intOf] <;> omega
                · have HN := Box.mk (HNE.out (fun e => take_ne HU.out HV.out huv (by rw [e])))
                  rw [decide_eq_false huv]
                  clear huv
                  go_wp2_with fail
                  go_ret
                  exact ⟨rb (by simp [HN.out]), HB5.out⟩
              · obtain rfl : t = n3 := by omega
                have E4 := Box.mk (take_end HG.out HXX.out.cl.len HYY.out.cl.len)
                have HXY := Box.mk (md_ext E0.out E1.out E2.out E3.out E4.out)
                go_wp2_with fail
                refine ⟨⟨k + 1, by omega, by go_num, ⟨take_step HE.out HX.out HY.out HXY.out⟩, HB4⟩, ?_⟩
                simp [intOf] <;> omega
    · obtain rfl : k = n := by omega
      go_wp2_with fail
      go_ret
      exact ⟨rb (by simp [eqMds_iff.2 (take_end HE.out H.out.len H'.out.len)]), HB.out⟩
end Go.Proofs.Ytchhjldopecliaa
namespace Go.Proofs.Ytchhjldopecliaa
open Go.RowKit

set_option maxRecDepth 100000 in
set_option maxHeartbeats 2000000 in
theorem c_LinkMoves (A : Option Addr) (n c : Nat) (ms : List Md) (x : Str) (o : Int) (w : World) (h : SlR w 5 RMd A n c ms) (hx : x.size ≤ LIM) :
    Calls Try.prog 9 #[.slice A n c, .string x, .int .i64 o] w fun e w' => e = .returned (.bool true) ∧ Below w.heap.size w w' := by
  have hlim := h.lim
  have H := Box.mk h
  clear h
  rw [LIM_eq] at hx
  go_enter Try.func9, Try.ntmps9
  go_wp2_with fail
  refine (c_over A n c ms w H.out).mono ?_
  rintro e w1 ⟨⟨q, rfl, hq⟩, hb1⟩
  have HB1 := Box.mk hb1
  clear hb1 hq
  cases q
  case true =>
    go_wp2_with fail
    refine (c_known w1).mono ?_
    rintro e w2 ⟨rfl, hb2⟩
    have HB2 := Box.mk (below_tr HB1.out HB1.out.size hb2)
    clear hb2
    go_wp2_with fail
    go_ret
    exact ⟨rfl, HB2.out⟩
  case false =>
  by_cases hxm : ((x.size : Nat) : Int) ≤ 65536
  case neg =>
    go_wp2_with fail
    refine (c_known w1).mono ?_
    rintro e w2 ⟨rfl, hb2⟩
    have HB2 := Box.mk (below_tr HB1.out HB1.out.size hb2)
    clear hb2
    go_wp2_with fail
    go_ret
    exact ⟨rfl, HB2.out⟩
  case pos =>
  go_wp2_with fail
  refine (c_Move A n c ms x o w1 (H.out.below mono_md HB1.out)).mono ?_
  rintro e w2 ⟨B1, d1, rfl, hs2, hb2⟩
  have HB2 := Box.mk (below_tr HB1.out HB1.out.size hb2)
  have HS2 := Box.mk hs2
  clear hb2 hs2
  have CM := Box.mk (r_Move A n c ms x o w2 (H.out.below mono_md HB2.out))
  obtain ⟨nm, hnm⟩ : ∃ nm, nm = (mov ms x o).1.length := ⟨_, rfl⟩
  rw [← hnm] at HS2 CM ⊢
  clear hnm
  generalize (mov ms x o).1 = xs at *
  generalize (mov ms x o).2 = E at *
  go_wp2_with fail
  refine CM.out.mono ?_
  rintro e w3 ⟨B2, d2, rfl, hs3, hb3⟩
  have HB3 := Box.mk (below_tr HB2.out HB2.out.size hb3)
  have HS3 := Box.mk hs3
  have HS2' := Box.mk (HS2.out.below mono_md hb3)
  clear hb3 hs3 CM
  go_wp2_with fail
  refine (r_Same B1 nm d1 xs B2 nm d2 xs w3 HS2'.out HS3.out).mono ?_
  rintro e w4 ⟨rfl, hb4⟩
  have HB4 := Box.mk (below_tr HB3.out HB3.out.size hb4)
  have HS2b := Box.mk (HS2'.out.below mono_md hb4)
  have HS3b := Box.mk (HS3.out.below mono_md hb4)
  clear hb4
  rw [eqMds_iff.2 (rfl : xs = xs)]
  go_wp2_with fail
  refine (c_Same B1 nm d1 xs A n c ms w4 HS2b.out (H.out.below mono_md HB4.out)).mono ?_
  rintro e w5 ⟨rfl, hb5⟩
  have HB5 := Box.mk (below_tr HB4.out HB4.out.size hb5)
  have HS3c := Box.mk (HS3b.out.below mono_md hb5)
  clear hb5
  have CR := Box.mk (r_Same B2 nm d2 xs A n c ms w5 HS3c.out (H.out.below mono_md HB5.out))
  generalize eqMds xs ms = Q at *
  go_wp2_with fail
  refine CR.out.mono ?_
  rintro e w6 ⟨rfl, hb6⟩
  have HB6 := Box.mk (below_tr HB5.out HB5.out.size hb6)
  clear hb6 CR
  have hQ : (Q == Q) = true := by cases Q <;> rfl
  go_wp2_with fail
  refine (c_Same A n c ms A n c ms w6 (H.out.below mono_md HB6.out) (H.out.below mono_md HB6.out)).mono ?_
  rintro e w7 ⟨rfl, hb7⟩
  have HB7 := Box.mk (below_tr HB6.out HB6.out.size hb7)
  clear hb7
  rw [eqMds_iff.2 (rfl : ms = ms)]
  go_wp2_with fail
  refine (c_known w7).mono ?_
  rintro e w9 ⟨rfl, hb9⟩
  have HB9 := Box.mk (below_tr HB7.out HB7.out.size hb9)
  clear hb9
  go_wp2_with fail
  go_ret
  exact ⟨rfl, HB9.out⟩
end Go.Proofs.Ytchhjldopecliaa
