/-
Rings of calls, and the order in which procedures can be loaded, in plain Lean. No conditions.
What slices.Sorted(maps.Keys(m)) computes at the map of procedures. Condition: at most a million entries.
What Order computes. Condition: the argument is a slice of modules.
The least of the free names, found by one walk through the procedures. No conditions.
What the reference's Order computes. Condition: the argument is a slice of modules.
There is an order just where there are no rings: in plain Lean. No conditions.
A map from names to sets of what they reach. No conditions.
What Rings computes. Condition: the argument is a slice of modules.
Blocks of cells of one's own, made by make; a set that gets a text it may hold already. No conditions.
What the reference's Rings computes. Condition: the argument is a slice of modules.
That LinkOrders returns true. Condition: the argument is a slice of modules.
-/
import Derived.Test.YtchhjldopecliaaK5
namespace Go.Proofs.Ytchhjldopecliaa
open Go.RowKit

/-- The names, in order. -/
def nmS (ps : List Pc) : List Str := setS (ps.map (·.nm))
/-- Is a procedure free to be put next? -/
def frB (ps : List Pc) (out : List Str) (n : Str) : Bool := !decide (n ∈ out) && !((clOf ps n).any (fun s => !decide (s ∈ out)))
/-- The order from some procedures on; how many are still to be put. -/
def ordGo (ps : List Pc) : Nat → List Str → List Str × Bool
  | 0, out => (out, true)
  | f + 1, out => match (nmS ps).find? (frB ps out) with
    | none => ([], false)
    | some n => ordGo ps f (out ++ [n])
/-- What Order tells. -/
def ord (ms : List Md) : List Str × Bool × Int :=
  if opn ms ≠ 0 then ([], false, opn ms) else ((ordGo (prs ms) (nmS (prs ms)).length []).1, (ordGo (prs ms) (nmS (prs ms)).length []).2, 0)

theorem frB_fresh {ps : List Pc} {out : List Str} {n : Str} (h : frB ps out n = true) : n ∉ out := by
  unfold frB at h
  simp only [Bool.and_eq_true, Bool.not_eq_true', decide_eq_false_iff_not] at h
  exact h.1
theorem nmS_len {ms : List Md} (h : Good ms) : (nmS (prs ms)).length ≤ 100 := by
  have h1 := setS_length_le ((prs ms).map (·.nm))
  have h2 := h.plen
  rw [List.length_map] at h1
  exact Nat.le_trans h1 h2
theorem mem_nmS {ps : List Pc} {x : Str} : x ∈ nmS ps ↔ x ∈ ps.map (·.nm) := mem_setS
theorem srtS_nm {ms : List Md} (h : Good ms) : srtS ((prs ms).map (·.nm)) = nmS (prs ms) := srtS_nodup h.nms
end Go.Proofs.Ytchhjldopecliaa
namespace Go.Proofs.Ytchhjldopecliaa
open Go.RowKit

set_option maxRecDepth 100000 in
set_option maxHeartbeats 2000000 in
theorem i_keysP (n : Nat) (hn : 1 ≤ n) (n₀ Bs b : Nat) (kvs : List (Str × Value)) (w : World) (hBs : Bs < w.heap.size) (hn₀ : w.heap.size = n₀) (hc : w.cell? ⟨Bs, 0, none⟩ = some (.map (some b))) (h : MapK (fun s : Str => Value.string s) w b kvs) (W0 : World) (hW0 : Below n₀ w W0) :
    SeqStopsK Fence.wide n Try.prog 106 #[.pointer (some ⟨Bs, 0, none⟩)] (fun x : Str => #[Value.string x]) (Kp n₀) (fun ys => ys.Perm (kvs.map (·.1))) (fun _ => True) kvs.length W0 := by
  subst hn₀
  intro l J Jx W hW hJ hJx hY h0
  have hb0 : Below w.heap.size w W := hW0.trans (hW.mono hW0.size)
  have d0 := cellk hb0 hBs hc
  obtain ⟨w1, hr1, hR1, hb1, hsw1⟩ := MapK.range (P := Try.prog) (h.below hb0) Try.underlying57
  have hJ1 : J [] w1 := hJ [] W w1 none h0 (below_gb hb1 none) (fun r e => by cases e)
  have HB1 := Box.mk (hb0.trans (hb1.mono hb0.size))
  have HR1 := Box.mk hR1
  have HY := Box.mk hY
  have HJA := Box.mk hJ
  have HJ1 := Box.mk hJ1
  have HWS := Box.mk hb0.size
  clear hb0 hW hY hc h hJ hJx hBs hW0 hR1 hb1 hsw1 hJ1 h0
  refine callsIn_of_wp Try.func106 rfl trivial ?_ rfl
  simp only [Try.ntmps106, List.size_toArray, List.length_cons, List.length_nil, Nat.reduceAdd, Nat.reduceSub, Array.replicate_succ, Array.replicate_zero, List.push_toArray, List.append_toArray, List.nil_append, List.cons_append]
  gi_wp2
  clear hr1
  gi_loopw [3] (fun _ wr => ∃ pre left, (pre ++ left.map (·.1)).Perm (kvs.map (·.1)) ∧ Box (RangeK encS wr b W.heap.size left kvs) ∧ Box (J pre wr) ∧ Box (Below w.heap.size w wr)) (fun _ wr => leftN wr b W.heap.size)
  case atStart => exact ⟨[], kvs, List.Perm.refl _, HR1, HJ1, HB1⟩
  case round =>
    obtain ⟨pre, left, hperm, HR, HJ, HB⟩ := hrel
    have HP := Box.mk hperm
    clear hperm HR1 HJ1 HB1
    rcases RangeK.next (P := Try.prog) HR.out 0 with ⟨rfl, hr⟩ | ⟨l1, x, v, l2, w2, rfl, hr, hr', hR2, hg2, hs2⟩
    · gi_wp2
      go_end0
      exact ⟨⟨_, rfl⟩, .inl ⟨pre, by simpa using HP.out, HJ.out⟩⟩
    · have hJ2 : J pre w2 := HJA.out pre _ w2 _ HJ.out hg2 (fun r e => by injection e with e; subst e; exact ⟨Nat.le_refl _, HR.out.walk⟩)
      have hB2 : Below w.heap.size w w2 := HB.out.grown hg2 HB.out.size (fun q e => by injection e with e; subst e; exact HWS.out)
      have hlen : pre.length < kvs.length := by
        have := HP.out.length_eq
        simp at this
        omega
      obtain ⟨fn, tmps, assign, body, hy, hRy⟩ := HY.out pre x w2 hJ2 hlen
      have HR2 := Box.mk hR2
      have HB2 := Box.mk hB2
      have HN : Box (leftN wr b W.heap.size = (l1 ++ (x, v) :: l2).length) := ⟨HR.out.leftN⟩
      clear hJ2 hB2 hlen hR2 hg2 hs2 HR
      gi_wp2
      clear hr hr'
      refine hRy.mono ?_
      rintro e W3 (⟨rfl, hJ3, hk3⟩ | ⟨rfl, hJx3⟩)
      · have HR3 := Box.mk (HR2.out.walks hk3.2)
        gi_wp2
        go_roundw
        case rel => exact ⟨pre ++ [x], l1 ++ l2, (by
          refine List.Perm.trans ?_ HP.out
          simp only [List.map_append, List.map_cons, List.append_assoc, List.singleton_append]
          exact List.Perm.append_left _ (List.perm_middle).symm), HR3, ⟨hJ3⟩, ⟨HB2.out.trans hk3.1⟩⟩
        case measure => rw [HN.out, HR3.out.leftN]; simp
      · gi_wp2
        refine bodyPost_ret (results_none rfl _ _ _) rfl ?_
        exact ⟨⟨_, rfl⟩, .inr ⟨_, trivial, hJx3⟩⟩

theorem c_KeysP (b : Option Nat) (w : World) :
    Calls Try.prog 77 #[.map b] w fun e w' => e = .returned (.func (.func 106) #[] #[.pointer (some ⟨w.heap.size, 0, none⟩)]) ∧ w.alloc (.cells #[.map b] 57) = w' := by
  go_enter Try.func77, Try.ntmps77
  go_wp2_with fail
  go_ret
  exact ⟨rfl, rfl⟩
theorem ent_keysP : ∀ args w, (callFunc 106 args).run Try.prog w = .ok (.enter 106 args) w := enters_of Try.func106 (by kernel_rfl) rfl
/-- slices.Sorted(maps.Keys(m)). -/
theorem c_SortedKeysP (b : Nat) (kvs : List (Str × Value)) (w w1 : World) (h : MapK encS w b kvs) (hw : w.alloc (.cells #[.map (some b)] 57) = w1) (hn : kvs.length ≤ 1000000) :
    Calls Try.prog 64 #[.func (.func 106) #[] #[.pointer (some ⟨w.heap.size, 0, none⟩)]] w1 fun e w' => ∃ v, e = .returned v ∧ w'.ownsRow w1.heap.size 9 1 v (srtS (kvs.map (·.1))).length ((srtS (kvs.map (·.1))).map Value.string) ∧ Below w1.heap.size w1 w' := by
  have hB : Below w.heap.size w w1 := hw ▸ bel_alloc _ _
  have hlt : w.heap.size < w1.heap.size := by rw [← hw]; simp
  have hc : w1.cell? ⟨w.heap.size, 0, none⟩ = some (.map (some b)) := by rw [← hw]; simp
  refine (c_Sorted 106 #[.pointer (some ⟨w.heap.size, 0, none⟩)] ent_keysP (fun ys => ys.Perm (kvs.map (·.1))) (fun _ => True) kvs.length (by omega) (fun xs hx => by have := hx.length_eq; simp at this; omega) w1
    (fun W hW => i_keysP 3 (by decide) w1.heap.size w.heap.size b kvs w1 hlt rfl hc (h.below hB) W hW)).mono ?_
  rintro e w' ⟨v, xs, rfl, hp, ho, hb⟩
  rw [srtS_perm hp] at ho
  exact ⟨v, rfl, ho, hb⟩
end Go.Proofs.Ytchhjldopecliaa
namespace Go.Proofs.Ytchhjldopecliaa
open Go.RowKit

/-- A slice's length. -/
def vlen : Value → Nat
  | .slice _ n _ => n
  | _ => 0
theorem own_vlen {w : World} {base sz n : Nat} {e : TypeId} {v : Value} {xs : List Value} (h : w.ownsRow base e sz v n xs) : vlen v = n := by
  rcases h.2 with ⟨rfl, h0⟩ | ⟨g, cap, cur, rfl, _⟩
  · exact h0.symm
  · rfl
theorem bel_drew (w : World) : Below w.heap.size w w.drew := ⟨rfl, rfl, rfl, Nat.le_refl _, fun _ _ => rfl⟩
theorem own_bel {w w' : World} {base sz n : Nat} {e : TypeId} {v : Value} {xs : List Value} (h : w.ownsRow base e sz v n xs) (hb : Below w.heap.size w w') : w'.ownsRow base e sz v n xs :=
  h.kept (below_gb hb none) (by cases v.ownBlock <;> simp)
theorem ent_ord1 : ∀ args w, (callFunc 79 args).run Try.prog w = .ok (.enter 79 args) w := enters_of Try.func79 (by kernel_rfl) rfl
theorem ent_ord2 : ∀ args w, (callFunc 81 args).run Try.prog w = .ok (.enter 81 args) w := enters_of Try.func81 (by kernel_rfl) rfl

theorem c_Order2 (a8 b : Nat) (out : List Str) (y : Str) (w : World) (hc : w.cell? ⟨a8, 0, none⟩ = some (.map (some b))) (hm : MapS w b out) :
    Calls Try.prog 81 #[.string y, ptr a8] w fun e w' => e = .returned (.bool (!decide (y ∈ out))) ∧ Below w.heap.size w w' := by
  have hlk := hm.look y
  clear hm
  generalize decide (y ∈ out) = q at *
  go_enter Try.func81, Try.ntmps81
  go_wp2_with fail
  go_ret
  exact ⟨rfl, Below.refl _ _⟩

set_option maxRecDepth 100000 in
set_option maxHeartbeats 2000000 in
theorem c_Order1 (ps : List Pc) (a8 a5 b bp : Nat) (out : List Str) (x : Str) (w : World) (hc8 : w.cell? ⟨a8, 0, none⟩ = some (.map (some b))) (hc5 : w.cell? ⟨a5, 0, none⟩ = some (.map (some bp))) (hm : MapS w b out) (hp : MapP w bp ps) (hx : ∃ p, fnd x ps = some p) :
    Calls Try.prog 79 #[.string x, ptr a8, ptr a5] w fun e w' => e = .returned (.bool (frB ps out x)) ∧ Below w.heap.size w w' := by
  have hlk := hm.look x
  obtain ⟨p, hf⟩ := hx
  obtain ⟨kvs, hk, hpv⟩ := hp
  obtain ⟨v, hv, A7, n7, c7, rfl, hq⟩ := hpv.get_some hf
  have hlk2 := (hk.look keyS Try.underlying57 (zero_proc w) hv).1
  have hfd := field64_1 p.ov A7 n7 c7
  have HQ := Box.mk hq
  have HM := Box.mk hm
  have HC := Box.mk hc8
  have HF : Box (frB ps out x = (!decide (x ∈ out) && !(p.cl.any (fun s => !decide (s ∈ out))))) := ⟨by rw [frB, clOf_fnd hf]⟩
  clear hm hq hk hpv hv hf
  go_enter Try.func79, Try.ntmps79
  by_cases hin : x ∈ out
  · rw [decide_eq_true hin] at hlk HF
    go_wp2_with fail
    go_ret
    exact ⟨rb (by rw [HF.out]; simp), Below.refl _ _⟩
  · rw [decide_eq_false hin] at hlk HF
    have C := Box.mk (c_ContainsFunc_str (fun s => !decide (s ∈ out)) 81 #[ptr a8] ent_ord2 A7 n7 c7 p.cl w HQ.out (fun y v W _ hr hW => by
      obtain ⟨hr, _⟩ := hr
      obtain rfl : v = .string y := by simpa using hr
      exact c_Order2 a8 b out y W (cellk hW (World.block_lt_of_cell? w _ HC.out) HC.out) (HM.out.below hW)))
    clear hin
    generalize p.cl.any (fun s => !decide (s ∈ out)) = q at *
    go_wp2_with fail
    refine C.out.mono ?_
    rintro e w2 ⟨rfl, hb2⟩
    have HB2 := Box.mk hb2
    clear hb2
    go_wp2_with fail
    go_ret
    exact ⟨rb (by rw [HF.out]; simp), HB2.out⟩

set_option maxHeartbeats 1000000 in
/-- Whatever open tells, it gives a map. -/
theorem c_openM (A : Option Addr) (n c : Nat) (ms : List Md) (w : World) (h : SlR w 5 RMd A n c ms) :
    Calls Try.prog 62 #[.slice A n c] w fun e w' => (∃ o, e = .returned (.tuple #[.map o, .int .i64 (opn ms)]) ∧ (opn ms = 0 → Good ms ∧ ∃ b, o = some b ∧ MapP w' b (prs ms) ∧ w.heap.size ≤ b)) ∧ Below w.heap.size w w' := by
  have hlim := h.lim
  have H := Box.mk h
  clear h
  go_enter Try.func62, Try.ntmps62
  go_wp2_with fail
  refine (c_Validate A n c ms w H.out).mono ?_
  rintro e w1 ⟨rfl, hb1⟩
  have HB1 := Box.mk hb1
  clear hb1
  generalize hv : vld ms = V
  by_cases h0 : V = 0
  · subst h0
    have HG := Box.mk (vld_good hv)
    have HV := Box.mk hv
    clear hv
    go_wp2_with fail
    refine (c_procs A n c ms w1 (H.out.below mono_md HB1.out) HG.out.fits HG.out.procs).mono ?_
    rintro e w2 ⟨b, rfl, hm, hbl, hb2⟩
    have HM := Box.mk hm
    have HBL := Box.mk hbl
    have HB2 := Box.mk (below_tr HB1.out HB1.out.size hb2)
    clear hm hbl hb2
    go_wp2_with fail
    refine (c_missing b (prs ms) w2 HM.out HG.out.nms HG.out.plen (fun p hp => HG.out.pcalls hp)).mono ?_
    rintro e w3 ⟨A', c', rfl, hs, hb3⟩
    have HB3 := Box.mk (below_tr HB2.out HB2.out.size hb3)
    have HM3 := Box.mk (HM.out.below hb3)
    have hl := hs.lim
    clear hs hb3
    have HO : Box (opn ms = if 0 < (missS (prs ms)).length then 4 else 0) := ⟨by simp [opn, HV.out]⟩
    generalize (missS (prs ms)).length = q at *
    by_cases hq : 0 < q
    · go_wp2_with fail
      go_ret2
      refine ⟨⟨_, ret2i (by rw [HO.out, if_pos hq]), fun h => ?_⟩, HB3.out⟩
      rw [HO.out, if_pos hq] at h
      cases h
    · go_wp2_with fail
      go_ret2
      exact ⟨⟨_, ret2i (by rw [HO.out, if_neg hq]), fun _ => ⟨HG.out, b, rfl, HM3.out, by have := HBL.out; have := HB1.out.size; omega⟩⟩, HB3.out⟩
  · have HO : Box (opn ms = V) := ⟨by simp [opn, hv, h0]⟩
    have HN := Box.mk h0
    have h0' : ¬ ((V : Int) == 0) = true := by simpa using h0
    clear hv
    go_wp2_with fail
    go_ret2
    exact ⟨⟨_, ret2i (by rw [HO.out]), fun h => absurd (HO.out ▸ h) HN.out⟩, HB1.out⟩

set_option maxRecDepth 100000 in
set_option maxHeartbeats 4000000 in
theorem c_Order (A : Option Addr) (n c : Nat) (ms : List Md) (w : World) (h : SlR w 5 RMd A n c ms) :
    Calls Try.prog 39 #[.slice A n c] w fun e w' => ∃ A' c', e = .returned (.tuple #[.slice A' (ord ms).1.length c', .bool (ord ms).2.1, .int .i64 (ord ms).2.2]) ∧ SlR w' 1 RStr A' (ord ms).1.length c' (ord ms).1 ∧ Below w.heap.size w w' := by
  have hlim := h.lim
  have H := Box.mk h
  clear h
  go_enter Try.func39, Try.ntmps39
  have hmm := @run_makeMap Try.prog
  go_wp2_with fail
  refine (c_openM A n c ms w H.out).mono ?_
  rintro e w1 ⟨⟨o, rfl, hv⟩, hb1⟩
  have HB1 := Box.mk hb1
  clear hb1
  by_cases h0 : opn ms = 0
  case neg =>
    have HO : Box (ord ms = ([], false, opn ms)) := ⟨by simp [ord, h0]⟩
    have h0' : (opn ms != 0) = true := by simpa using h0
    clear hv
    generalize opn ms = V at *
    go_wp2_with fail
    go_ret3
    rw [HO.out]
    exact ⟨_, _, rfl, slr_nil _ _ _ _ _, bel_alloc2 HB1.out _⟩
  case pos =>
  obtain ⟨hg, bp, rfl, hm, hbl⟩ := hv h0
  have HO : Box (ord ms = ((ordGo (prs ms) (nmS (prs ms)).length []).1, (ordGo (prs ms) (nmS (prs ms)).length []).2, 0)) := ⟨by simp [ord, h0]⟩
  have HN := Box.mk (srtS_nm hg)
  have HNL := Box.mk (nmS_len hg)
  have HSZ := Box.mk (prs_sizes H.out)
  have HMP := Box.mk hm
  obtain ⟨kvs, hk, hpv⟩ := hm
  have HK := Box.mk hk
  have HKL : Box (kvs.length ≤ 1000000) := ⟨by
    have h1 := congrArg List.length hpv.keys
    rw [List.length_map, List.length_map] at h1
    have := hg.plen
    omega⟩
  have HKN := Box.mk hpv.keys
  have HFN : Box (∀ x ∈ nmS (prs ms), ∃ p, fnd x (prs ms) = some p) := ⟨fun x hx => mem_fnd (mem_nmS.1 hx)⟩
  rw [h0]
  clear hv hk hpv hg hbl h0
  generalize prs ms = ps at *
  have HL0 := Box.mk hlim
  go_wp2_with fail
  have HBL0 := Box.mk (World.block_lt_of_cell? w1)
  have hE : Box (Below w1.heap.size w1 (((w1.alloc (.cells #[.map (some bp)] 57)).alloc (.map #[] 0)).alloc (.cells #[.map (some (w1.heap.size + 1))] 82))) := ⟨bel_alloc2 (bel_alloc2 (bel_alloc w1 _) _) _⟩
  have hS0 : Box (MapS (((w1.alloc (.cells #[.map (some bp)] 57)).alloc (.map #[] 0)).alloc (.cells #[.map (some (w1.heap.size + 1))] 82)) (w1.heap.size + 1) []) := ⟨by
    have h := (MapS_made (w1.alloc (.cells #[.map (some bp)] 57))).below (bel_alloc (w1.alloc (.cells #[.map (some bp)] 57) |>.alloc (.map #[] 0)) (.cells #[.map (some (w1.heap.size + 1))] 82))
    simpa using h⟩
  have hC5 : Box ((((w1.alloc (.cells #[.map (some bp)] 57)).alloc (.map #[] 0)).alloc (.cells #[.map (some (w1.heap.size + 1))] 82)).cell? ⟨w1.heap.size, 0, none⟩ = some (.map (some bp))) := ⟨cell_al _ (cell_al _ (cell_new _ _ _ rfl rfl))⟩
  have hC8 : Box ((((w1.alloc (.cells #[.map (some bp)] 57)).alloc (.map #[] 0)).alloc (.cells #[.map (some (w1.heap.size + 1))] 82)).cell? ⟨w1.heap.size + 1 + 1, 0, none⟩ = some (.map (some (w1.heap.size + 1)))) := ⟨cell_new _ _ _ (by simp) rfl⟩
  have hWS : Box ((((w1.alloc (.cells #[.map (some bp)] 57)).alloc (.map #[] 0)).alloc (.cells #[.map (some (w1.heap.size + 1))] 82)).heap.size = w1.heap.size + 3) := ⟨by simp⟩
  generalize (((w1.alloc (.cells #[.map (some bp)] 57)).alloc (.map #[] 0)).alloc (.cells #[.map (some (w1.heap.size + 1))] 82)) = W3 at *
  refine (c_KeysP (some bp) W3).mono ?_
  rintro e W4 ⟨rfl, hw4⟩
  have CS := Box.mk (c_SortedKeysP bp kvs W3 W4 (HK.out.below hE.out) hw4 HKL.out)
  have HB4 : Box (Below W3.heap.size W3 W4) := ⟨hw4 ▸ bel_alloc _ _⟩
  clear hw4
  go_wp2_with fail
  refine CS.out.mono ?_
  rintro e w5 ⟨v9, rfl, ho, hb5⟩
  rw [HKN.out, HN.out] at ho
  have HB5 := Box.mk (below_tr HB4.out HB4.out.size hb5)
  obtain ⟨A9, c9, rfl, hs9⟩ := own_strsO (ok := fun b => b ≠ w1.heap.size + 1) ho (fun y hy => HSZ.out y (mem_nmS.1 hy)) (by have := HNL.out; rw [LIM_eq]; omega) (fun b hb => by have := (ho.lt b hb).1; have := HB4.out.size; have := hWS.out; omega)
  have HS9 := Box.mk hs9
  have G0 := Box.mk (hS0.out.below HB5.out)
  have G5 : Box (w5.cell? ⟨w1.heap.size, 0, none⟩ = some (.map (some bp))) := ⟨cellk HB5.out (by have := hWS.out; omega) hC5.out⟩
  have G8 : Box (w5.cell? ⟨w1.heap.size + 1 + 1, 0, none⟩ = some (.map (some (w1.heap.size + 1)))) := ⟨cellk HB5.out (by have := hWS.out; omega) hC8.out⟩
  have GB := Box.mk (below_tr hE.out hE.out.size HB5.out)
  have GS : Box (w1.heap.size + 3 ≤ w5.heap.size) := ⟨by have := HB5.out.size; have := hWS.out; omega⟩
  obtain ⟨nn, hnn⟩ : ∃ nn, nn = (nmS ps).length := ⟨_, rfl⟩
  rw [← hnn] at HO HS9 HNL ⊢
  have HNN := Box.mk hnn
  clear ho hs9 hb5 CS HB4 HB5 hE hS0 hC5 hC8 hWS hnn HBL0
  go_wp2_with fail
  go_loopw [7, 10] (fun v7 _ wr => ∃ out : List Str, Box (out.length ≤ nn) ∧ Box (ordGo ps (nn - out.length) out = ordGo ps nn []) ∧ Box (MapS wr (w1.heap.size + 1) out) ∧ Box (wr.ownsRow w5.heap.size 9 1 v7 out.length (out.map Value.string)) ∧ Box (w5.grownBy wr (some (w1.heap.size + 1))) ∧ Box (∀ y ∈ out, y ∈ nmS ps)) (fun v7 _ _ => nn - vlen v7)
  case atStart => exact ⟨[], ⟨Nat.zero_le _⟩, ⟨by simp⟩, G0, ⟨World.ownsRow_nil _ _ _ _⟩, ⟨World.grownBy.refl _ _⟩, ⟨by simp⟩⟩
  case round =>
    obtain ⟨out, HOL, HGO, HM, HR, HG, HIN⟩ := hrel
    obtain ⟨A7, m7, c7, rfl⟩ := own_slice HR.out
    have hm7 : m7 = out.length := own_vlen HR.out
    subst hm7
    have HW1 := Box.mk (GB.out.grown HG.out GB.out.size (fun q hq => by injection hq with hq; omega))
    by_cases hlt : out.length < nn
    · have HD5 : Box (wr.cell? ⟨w1.heap.size, 0, none⟩ = some (.map (some bp))) := ⟨HG.out.cell G5.out (fun e => by simp at e)⟩
      have HD8 : Box (wr.cell? ⟨w1.heap.size + 1 + 1, 0, none⟩ = some (.map (some (w1.heap.size + 1)))) := ⟨HG.out.cell G8.out (fun e => by simp at e)⟩
      have HS' := Box.mk ((HS9.out.kept rdStr HG.out (fun b e h => by injection e with e; exact h e.symm)))
      have C := Box.mk (c_IndexFunc_str (frB ps out) 79 #[ptr (w1.heap.size + 1 + 1), ptr w1.heap.size] ent_ord1 A9 nn c9 (nmS ps) wr (HS'.out.rd rdStr) (fun y v W hy hr hW => by
        obtain ⟨hr, _⟩ := hr
        obtain rfl : v = .string y := by simpa using hr
        exact c_Order1 ps (w1.heap.size + 1 + 1) w1.heap.size (w1.heap.size + 1) bp out y W (cellk hW (World.block_lt_of_cell? wr _ HD8.out) HD8.out) (cellk hW (World.block_lt_of_cell? wr _ HD5.out) HD5.out) (HM.out.below hW) (HMP.out.below (below_tr HW1.out HW1.out.size hW)) (HFN.out y hy)))
      go_wp2_with fail
      refine C.out.mono ?_
      rintro e w6 ⟨rfl, hb6⟩
      have HB6 := Box.mk hb6
      clear hb6 C
      have HGO' := HGO.out
      rw [show nn - out.length = (nn - (out.length + 1)) + 1 by omega, ordGo] at HGO'
      rcases idxF_find (frB ps out) (nmS ps) 0 with ⟨h1, h2⟩ | ⟨k, x, h1, h2, h3⟩
      · rw [h1]
        rw [h2] at HGO'
        dsimp only at HGO'
        rw [← HGO'] at HO
        dsimp only at HO
        have HBE := Box.mk (below_tr HB1.out HB1.out.size (below_tr HW1.out HW1.out.size HB6.out))
        clear h1 h2 HGO'
        go_wp2_with fail
        go_ret3
        rw [HO.out]
        exact ⟨_, _, rfl, slr_nil _ _ _ _ _, HBE.out⟩
      · rw [h1, Nat.zero_add]
        rw [h3] at HGO'
        dsimp only at HGO'
        have HGN := Box.mk HGO'
        have hkn : k < nn := by rw [HNN.out]; exact (List.getElem?_eq_some_iff.1 h2).1
        have HFR : Box (x ∉ out) := ⟨frB_fresh (List.find?_some h3)⟩
        have HXI : Box (x ∈ nmS ps) := ⟨List.mem_iff_getElem?.2 ⟨k, h2⟩⟩
        have hk0 : decide ((k : Int) < 0) = false := decide_eq_false (by omega)
        have i0 : (0 : Int) ≤ (k : Int) := by omega
        have i1 : (k : Int) < (nn : Int) := by omega
        have HS6 := Box.mk ((HS'.out.kept rdStr (below_gb HB6.out none) (fun b e => by cases e)).kept rdStr (row := none) (below_gb (bel_drew w6) none) (fun b e => by cases e))
        have HM6 := Box.mk ((HM.out.below HB6.out).below (bel_drew w6))
        have hd8 : w6.drew.cell? ⟨w1.heap.size + 1 + 1, 0, none⟩ = some (.map (some (w1.heap.size + 1))) := cellk HB6.out (World.block_lt_of_cell? wr _ HD8.out) HD8.out
        have HR6 := Box.mk (own_bel (own_bel HR.out HB6.out) (bel_drew w6))
        have HG6 := Box.mk (grown_tr (grown_tr HG.out (below_gb HB6.out (some (w1.heap.size + 1)))) (below_gb (bel_drew w6) (some (w1.heap.size + 1))))
        obtain ⟨w7, hup, hm7, hg7, hs7⟩ := HM6.out.add x HFR.out
        have HM7 := Box.mk hm7
        have HG7 := Box.mk (grown_tr HG6.out hg7)
        have HSS7 := Box.mk (HS6.out.kept rdStr hg7 (fun b e h => by injection e with e; exact h e.symm))
        have HR7 := Box.mk (HR6.out.kept hg7 (by
          cases hu : (Value.slice A7 out.length c7).ownBlock with
          | none => exact .inl rfl
          | some q => exact .inr (fun e => by injection e with e; have := (HR6.out.lt q hu).1; have := GS.out; omega)))
        have HS7 : Box (w7.heap.size = w6.heap.size) := ⟨hs7⟩
        obtain ⟨b5, o5, y, e5, hb5, hx5, hs5, hc5⟩ := (HS6.out.rd rdStr).str_at k hkn
        obtain ⟨b7, o7, y7, e7, hb7, hx7, hsx7, hc7⟩ := (HSS7.out.rd rdStr).str_at k hkn
        rw [h2] at hx5 hx7
        injection hx5 with hx5
        injection hx7 with hx7
        subst hx5 hx7 e5
        injection e7 with e7
        injection e7 with e71 e72
        subst e71 e72
        have HLA : Box ((out.length + 1) * 16 ≤ 140737488355328) := ⟨by have := HNL.out; omega⟩
        have HB7 : Box (w5.heap.size ≤ w7.heap.size) := ⟨HG7.out.size⟩
        clear h1 h2 h3 HGO' hm7 hg7 hs7 hb5 hs5 hb7 hsx7 HGO HD5 HD8
        go_upto_region 11 with fail
        go_region
        clear hup hc5 hd8
        go_wp2_with (at_builtin; refine wpL_app _ w5.heap.size rfl _ _ 23 9 rfl (.string ByteArray.empty) 1 16 Try.underlying23 info_str rfl (by decide) (by decide) (.slice A7 out.length c7) _ _ rfl (HR7.out.alloc _) (some ⟨_, 0, none⟩) 1 1 [.string x] rfl (src_at _ _ _ _ (by simp) rfl) HLA.out (Nat.le_trans HB7.out (bel_alloc _ _).size) ?_; intro v7' wa ho7 hg7 hat7)
        have hg7' := grown_al w7 hg7 rfl rfl rfl rfl
        have hv7 := own_vlen ho7
        have HGf := Box.mk (show w5.grownBy wa (some (w1.heap.size + 1)) from ⟨hg7'.os.trans HG7.out.os, hg7'.tape.trans HG7.out.tape, hg7'.output.trans HG7.out.output, Nat.le_trans HG7.out.size hg7'.size, fun i hi hne => by
          rw [hg7'.block i (Nat.lt_of_lt_of_le hi HG7.out.size) (fun e => by have := (HR7.out.lt i e.symm).1; omega), HG7.out.block i hi hne]⟩)
        have HMf := Box.mk (HM7.out.kept hg7' (fun e => by have := (HR7.out.lt _ e.symm).1; have := GS.out; omega))
        have HOf := Box.mk ho7
        clear ho7 hg7 hg7' hat7
        go_roundw
        case rel => exact ⟨out ++ [x], ⟨by rw [List.length_append]; exact hlt⟩, ⟨by rw [List.length_append]; exact HGN.out⟩, HMf, ⟨by rw [List.length_append, List.map_append]; exact HOf.out⟩, HGf, ⟨fun y hy => by
          rcases List.mem_append.1 hy with hy | hy
          · exact HIN.out y hy
          · obtain rfl : y = x := by simpa using hy
            exact HXI.out⟩⟩
        case measure => rw [hv7, show vlen (Value.slice A7 out.length c7) = out.length from rfl]; omega
    · have hnn : out.length = nn := by have := HOL.out; omega
      subst hnn
      have HGO' := HGO.out
      rw [Nat.sub_self, ordGo] at HGO'
      rw [← HGO'] at HO
      dsimp only at HO
      obtain ⟨B', c', e', hs⟩ := own_strs HR.out (fun y hy => HSZ.out y (mem_nmS.1 (HIN.out y hy))) (by have := HNL.out; rw [LIM_eq]; omega)
      injection e' with e1 e2 e3
      subst e1 e3
      have HSE := Box.mk hs
      have HBE := Box.mk (below_tr HB1.out HB1.out.size HW1.out)
      clear hs HGO'
      go_wp2_with fail
      go_ret3
      rw [HO.out]
      exact ⟨_, _, rfl, HSE.out, HBE.out⟩
end Go.Proofs.Ytchhjldopecliaa
namespace Go.Proofs.Ytchhjldopecliaa
open Go.RowKit

/-- Which text stands before another. -/
def ltS (x y : Str) : Bool := Op.bytesLess (ByteArray.toList x) (ByteArray.toList y)
theorem bytesLess_lt : ∀ (l m : List UInt8), Op.bytesLess l m = decide (l < m)
  | _, [] => by simp [Op.bytesLess]
  | [], _ :: _ => by simp [Op.bytesLess]
  | a :: x, b :: y => by
    unfold Op.bytesLess
    rw [bytesLess_lt x y, Bool.eq_iff_iff]
    simp [List.cons_lt_cons_iff]
theorem ltS_iff {x y : Str} : ltS x y = true ↔ bs x < bs y := by
  unfold ltS
  rw [bytesLess_lt, decide_eq_true_iff]
  have e : ∀ s : Str, ByteArray.toList s = bs s := fun s => by rw [ByteArray.toList_eq]; rfl
  rw [e, e]

def frP (out : List Str) (p : Pc) : Bool := !decide (p.nm ∈ out) && !(p.cl.any (fun s => !decide (s ∈ out)))
def bstep (out : List Str) (best : Str) (p : Pc) : Str := if frP out p && (decide (best = ByteArray.empty) || ltS p.nm best) then p.nm else best
/-- The least free name; nothing where none is free. -/
def bst (out : List Str) (l : List Pc) : Str := l.foldl (bstep out) ByteArray.empty
theorem bst_take {out : List Str} {ps : List Pc} {k : Nat} {p : Pc} (h : ps[k]? = some p) : bst out (ps.take (k + 1)) = bstep out (bst out (ps.take k)) p := by
  unfold bst
  rw [List.take_add_one, h]
  simp
theorem bst_inv {out : List Str} {ps : List Pc} (hne : ∀ p ∈ ps, p.nm ≠ ByteArray.empty) : ∀ k, (bst out (ps.take k) = ByteArray.empty ∧ ∀ p ∈ ps.take k, frP out p = false) ∨
    ((∃ p ∈ ps, p.nm = bst out (ps.take k) ∧ frP out p = true) ∧ ∀ q ∈ ps.take k, frP out q = true → ¬ bs q.nm < bs (bst out (ps.take k)))
  | 0 => .inl ⟨rfl, by simp⟩
  | k + 1 => by
    by_cases hk : k < ps.length
    · have hp : ps[k]? = some ps[k] := List.getElem?_eq_getElem hk
      have hm : ps[k] ∈ ps := List.getElem_mem hk
      have ht : ∀ q, q ∈ ps.take (k + 1) ↔ q ∈ ps.take k ∨ q = ps[k] := fun q => by rw [List.take_add_one, hp, List.mem_append]; simp only [Option.toList_some, List.mem_singleton]
      rw [bst_take hp]
      unfold bstep
      rcases bst_inv hne k with ⟨h1, h2⟩ | ⟨⟨p0, hp0, hn0, hf0⟩, h2⟩
      · by_cases hf : frP out ps[k] = true
        · right
          rw [h1]
          simp only [hf, Bool.true_and, decide_true, Bool.true_or, if_true]
          refine ⟨⟨ps[k], hm, rfl, hf⟩, fun q hq hfq => ?_⟩
          rcases (ht q).1 hq with hq | rfl
          · rw [h2 q hq] at hfq; cases hfq
          · exact fun h => absurd h (List.lt_irrefl _)
        · left
          have hf' : frP out ps[k] = false := by simpa using hf
          rw [h1]
          simp only [hf', Bool.false_and, Bool.false_eq_true, if_false]
          refine ⟨trivial, fun q hq => ?_⟩
          rcases (ht q).1 hq with hq | rfl
          · exact h2 q hq
          · exact hf'
      · right
        have hne0 : bst out (ps.take k) ≠ ByteArray.empty := by rw [← hn0]; exact hne p0 hp0
        by_cases hf : frP out ps[k] = true
        · by_cases hl : ltS ps[k].nm (bst out (ps.take k)) = true
          · simp only [hf, hl, Bool.true_and, Bool.or_true, if_true]
            refine ⟨⟨ps[k], hm, rfl, hf⟩, fun q hq hfq => ?_⟩
            rcases (ht q).1 hq with hq | rfl
            · exact fun h => h2 q hq hfq (List.lt_trans h (ltS_iff.1 hl))
            · exact fun h => absurd h (List.lt_irrefl _)
          · have hl' : ltS ps[k].nm (bst out (ps.take k)) = false := by simpa using hl
            simp only [hf, hl', hne0, decide_false, Bool.or_false, Bool.and_false, Bool.false_eq_true, if_false]
            refine ⟨⟨p0, hp0, hn0, hf0⟩, fun q hq hfq => ?_⟩
            rcases (ht q).1 hq with hq | rfl
            · exact h2 q hq hfq
            · exact fun h => hl (ltS_iff.2 h)
        · have hf' : frP out ps[k] = false := by simpa using hf
          simp only [hf', Bool.false_and, Bool.false_eq_true, if_false]
          refine ⟨⟨p0, hp0, hn0, hf0⟩, fun q hq hfq => ?_⟩
          rcases (ht q).1 hq with hq | rfl
          · exact h2 q hq hfq
          · exact absurd hfq hf
    · have e : ps.take (k + 1) = ps.take k := by rw [List.take_of_length_le (by omega), List.take_of_length_le (by omega)]
      rw [e]
      exact bst_inv hne k
theorem frB_at {ps : List Pc} (hn : (ps.map (·.nm)).Nodup) (out : List Str) {p : Pc} (hp : p ∈ ps) : frB ps out p.nm = frP out p := by
  obtain ⟨i, hi⟩ := List.mem_iff_getElem?.1 hp
  rw [frB, frP, clOf_fnd (fnd_at hn hi).1]
theorem bst_find {ps : List Pc} (hn : (ps.map (·.nm)).Nodup) (hne : ∀ p ∈ ps, p.nm ≠ ByteArray.empty) (out : List Str) :
    (bst out ps = ByteArray.empty ∧ (nmS ps).find? (frB ps out) = none) ∨ (bst out ps ≠ ByteArray.empty ∧ (nmS ps).find? (frB ps out) = some (bst out ps)) := by
  have h := bst_inv (out := out) hne ps.length
  rw [List.take_of_length_le (Nat.le_refl _)] at h
  rcases h with ⟨h1, h2⟩ | ⟨⟨p0, hp0, hn0, hf0⟩, h2⟩
  · left
    refine ⟨h1, ?_⟩
    rw [List.find?_eq_none]
    intro x hx
    obtain ⟨p, hp, rfl⟩ := List.mem_map.1 (mem_nmS.1 hx)
    rw [frB_at hn out hp, h2 p hp]
    simp
  · right
    refine ⟨by rw [← hn0]; exact hne p0 hp0, ?_⟩
    have hin : bst out ps ∈ nmS ps := mem_nmS.2 (List.mem_map.2 ⟨p0, hp0, hn0⟩)
    have hfr : frB ps out (bst out ps) = true := by rw [← hn0, frB_at hn out hp0]; exact hf0
    obtain ⟨l1, l2, e, hno⟩ : ∃ l1 l2, nmS ps = l1 ++ bst out ps :: l2 ∧ ∀ a ∈ l1, frB ps out a = false := by
      obtain ⟨l1, l2, e⟩ := List.append_of_mem hin
      refine ⟨l1, l2, e, fun a ha => ?_⟩
      have hsort := setS_sorted (ps.map (·.nm))
      have hlt : bs a < bs (bst out ps) := by
        have e' : (setS (ps.map (·.nm))).map bs = l1.map bs ++ bs (bst out ps) :: l2.map bs := by
          rw [show setS (ps.map (·.nm)) = nmS ps from rfl, e]; simp
        rw [e', List.pairwise_append] at hsort
        exact hsort.2.2 _ (List.mem_map_of_mem ha) _ (List.mem_cons_self ..)
      have ham : a ∈ nmS ps := by rw [e]; exact List.mem_append.2 (.inl ha)
      obtain ⟨p, hp, hpa⟩ := List.mem_map.1 (mem_nmS.1 ham)
      cases hq : frB ps out a with
      | false => rfl
      | true =>
        rw [← hpa, frB_at hn out hp] at hq
        exact absurd (hpa ▸ hlt) (h2 p hp hq)
    rw [e, List.find?_append, List.find?_eq_none.2 (fun a ha => by rw [hno a ha]; simp), List.find?_cons_of_pos hfr]
    rfl
end Go.Proofs.Ytchhjldopecliaa
namespace Go.Proofs.Ytchhjldopecliaa
open Go.RowKit

theorem name_ne {ms : List Md} (hg : Good ms) : ∀ p ∈ prs ms, p.nm ≠ ByteArray.empty := by
  intro p hp e
  obtain ⟨m, hm, hq⟩ := List.mem_flatMap.1 hp
  have hr := hg.right m hm
  have hmem := (pcOf_mem hg hm hq).1
  unfold rightB at hr
  simp only [Bool.and_eq_true, decide_eq_true_eq, Bool.not_eq_true', List.any_eq_false] at hr
  have := hr.2.2.2.2.1 _ hmem
  rw [e] at this
  exact this (by decide)
theorem nmS_length {ms : List Md} (hg : Good ms) : (nmS (prs ms)).length = (prs ms).length := by
  rw [← srtS_nm hg, srtS_length, List.length_map]

set_option maxRecDepth 100000 in
set_option maxHeartbeats 4000000 in
theorem r_Order (A : Option Addr) (n c : Nat) (ms : List Md) (w : World) (h : SlR w 5 RMd A n c ms) :
    Calls Try.prog 40 #[.slice A n c] w fun e w' => ∃ A' c', e = .returned (.tuple #[.slice A' (ord ms).1.length c', .bool (ord ms).2.1, .int .i64 (ord ms).2.2]) ∧ SlR w' 1 RStr A' (ord ms).1.length c' (ord ms).1 ∧ Below w.heap.size w w' := by
  have hlim := h.lim
  have H := Box.mk h
  clear h
  go_enter Try.func40, Try.ntmps40
  have hmm := @run_makeMap Try.prog
  go_wp2_with fail
  refine (r_whole A n c ms w H.out).mono ?_
  rintro e w1 ⟨rfl, hb1⟩
  have HB1 := Box.mk hb1
  clear hb1
  by_cases h0 : opn ms = 0
  case neg =>
    have HO : Box (ord ms = ([], false, opn ms)) := ⟨by simp [ord, h0]⟩
    have h0' : (opn ms != 0) = true := by simpa using h0
    generalize opn ms = V at *
    go_wp2_with fail
    go_ret3
    rw [HO.out]
    exact ⟨_, _, rfl, slr_nil _ _ _ _ _, HB1.out⟩
  case pos =>
  have hg := opn_good h0
  have HO : Box (ord ms = ((ordGo (prs ms) (nmS (prs ms)).length []).1, (ordGo (prs ms) (nmS (prs ms)).length []).2, 0)) := ⟨by simp [ord, h0]⟩
  have CA := Box.mk (r_all A n c ms w1 (H.out.below mono_md HB1.out) hg)
  have HNE := Box.mk (name_ne hg)
  have HND := Box.mk hg.nms
  have hpl := hg.plen
  have HSZ := Box.mk (prs_sizes H.out)
  have hnl := nmS_length hg
  obtain ⟨np, hnp⟩ : ∃ np, np = (prs ms).length := ⟨_, rfl⟩
  rw [hnl] at HO
  rw [← hnp] at HO CA hpl
  have HNP := Box.mk hnp
  rw [h0]
  clear hg hnl hnp h0
  generalize prs ms = ps at *
  go_wp2_with fail
  refine CA.out.mono ?_
  rintro e w2 ⟨B, cb, rfl, hp, hb2⟩
  have HP := Box.mk hp
  have HB2 := Box.mk (below_tr HB1.out HB1.out.size hb2)
  clear hp hb2 CA
  have HS0 := Box.mk (MapS_made w2)
  have HBM := Box.mk (bel_alloc w2 (.map #[] 0))
  have HSM : Box ((w2.alloc (.map #[] 0)).heap.size = w2.heap.size + 1) := ⟨by simp⟩
  go_wp2_with fail
  generalize w2.alloc (.map #[] 0) = W3 at *
  go_loopw [7, 9, 10, 11, 12] (fun v7 _ _ _ _ wr => ∃ out : List Str, Box (out.length ≤ np) ∧ Box (ordGo ps (np - out.length) out = ordGo ps np []) ∧ Box (MapS wr w2.heap.size out) ∧ Box (wr.ownsRow W3.heap.size 9 1 v7 out.length (out.map Value.string)) ∧ Box (W3.grownBy wr (some w2.heap.size)) ∧ Box (∀ y ∈ out, y ∈ nmS ps)) (fun v7 _ _ _ _ _ => np - vlen v7)
  case atStart => exact ⟨[], ⟨Nat.zero_le _⟩, ⟨by simp⟩, HS0, ⟨World.ownsRow_nil _ _ _ _⟩, ⟨World.grownBy.refl _ _⟩, ⟨by simp⟩⟩
  case round =>
    obtain ⟨out, HOL, HGO, HM, HR, HG, HIN⟩ := hrel
    obtain ⟨A7, m7, c7, rfl⟩ := own_slice HR.out
    have hm7 : m7 = out.length := own_vlen HR.out
    subst hm7
    have HW1 := Box.mk (HBM.out.grown HG.out HBM.out.size (fun q hq => by injection hq with hq; omega))
    by_cases hlt : out.length < np
    · go_wp2_with fail
      go_loopw [9, 10, 11, 12] (fun v9 i _ _ wx => ∃ k : Nat, k ≤ np ∧ i = .int .i64 k ∧ v9 = .string (bst out (ps.take k)) ∧ wx = wr) (fun _ i _ _ _ => np - (intOf i).toNat)
      case atStart => exact ⟨0, Nat.zero_le _, rfl, rfl, rfl⟩
      case round =>
        obtain ⟨k, hk, rfl, rfl, rfl⟩ := hrel
        by_cases hkl : k < np
        · obtain ⟨b, off, p, A1, n1, c1, rfl, hb, hx, hps, hq, h0, h1, h2, h3⟩ := HP.out.pc_at k hkl
          replace h0 := cellk HW1.out hb h0
          replace h3 := cellk HW1.out hb h3
          have HTK : Box (bst out (ps.take (k + 1)) = bstep out (bst out (ps.take k)) p) := ⟨bst_take hx⟩
          have HQ := Box.mk hq
          have hl1 := hq.lim
          have hlk := HM.out.look p.nm
          have HFP : Box (frP out p = (!decide (p.nm ∈ out) && !(p.cl.any (fun s => !decide (s ∈ out))))) := ⟨rfl⟩
          clear h1 h2 hx hps hq
          generalize bst out (ps.take k) = best at *
          go_wp2_with fail
          go_loopw [11, 12] (fun v11 i wx => ∃ j : Nat, j ≤ n1 ∧ i = .int .i64 j ∧ v11 = .bool (!decide (p.nm ∈ out) && !((p.cl.take j).any (fun s => !decide (s ∈ out)))) ∧ wx = wr) (fun _ i _ => n1 - (intOf i).toNat)
          case atStart => exact ⟨0, Nat.zero_le _, rfl, vb (by simp), rfl⟩
          case round =>
            obtain ⟨j, hj, rfl, rfl, rfl⟩ := hrel
            by_cases hjl : j < n1
            · obtain ⟨b5, o5, s, rfl, hb5, hx5, hs5, hc5⟩ := HQ.out.str_at j hjl
              replace hc5 := cellk HW1.out hb5 hc5
              have hlk2 := HM.out.look s
              have HT2 : Box ((p.cl.take (j + 1)).any (fun s => !decide (s ∈ out)) = ((p.cl.take j).any (fun s => !decide (s ∈ out)) || !decide (s ∈ out))) := ⟨by rw [List.take_add_one, hx5]; simp⟩
              clear hx5 hs5 hb5
              generalize hq0 : (!decide (p.nm ∈ out) && !((p.cl.take j).any (fun s => !decide (s ∈ out)))) = q0 at *
              have HQ0 := Box.mk hq0
              clear hq0
              cases q0
              · go_wp2_with fail
                go_roundw
                case rel => exact ⟨j + 1, by omega, by go_num, vb (by
                  have := HQ0.out
                  rw [HT2.out]
                  simp only [Bool.not_or, Bool.not_not, ← Bool.and_assoc, this]
                  simp), by first | rfl | trivial⟩
                case measure => simp [intOf] <;> omega
              · generalize hqs : decide (s ∈ out) = qs at *
                have HQS := Box.mk hqs
                go_wp2_with fail
                go_roundw
                case rel => exact ⟨j + 1, by omega, by go_num, vb (by
                  have := HQ0.out
                  rw [HT2.out]
                  simp only [Bool.not_or, Bool.not_not, ← Bool.and_assoc, this]
                  simp), by first | rfl | trivial⟩
                case measure => simp [intOf] <;> omega
            · obtain rfl : j = n1 := by omega
              rw [List.take_of_length_le (by rw [HQ.out.len]; exact Nat.le_refl _), ← HFP.out]
              have HBS : Box (bstep out best p = if frP out p && (decide (best = ByteArray.empty) || ltS p.nm best) then p.nm else best) := ⟨rfl⟩
              clear hlk
              generalize frP out p = q1 at *
              have hse : (ByteArray.toList best == []) = decide (best = ByteArray.empty) := by
                rw [← show ByteArray.toList ByteArray.empty = [] from by simp [ByteArray.toList_eq], tleq]
              generalize hqe : decide (best = ByteArray.empty) = qe at *
              generalize hql : ltS p.nm best = ql at *
              unfold ltS at hql
              cases q1 <;> cases qe <;> cases ql
              all_goals
                go_wp2_with fail
                go_roundw
                case rel => exact ⟨k + 1, by omega, by go_num, by rw [HTK.out, HBS.out]; simp, by first | rfl | trivial⟩
                case measure => simp [intOf] <;> omega
        · obtain rfl : k = np := by omega
          have e : ps.take k = ps := List.take_of_length_le (by rw [← HNP.out]; exact Nat.le_refl _)
          rw [e]
          have HGO' := HGO.out
          rw [show k - out.length = (k - (out.length + 1)) + 1 by omega, ordGo] at HGO'
          have hse : (ByteArray.toList (bst out ps) == []) = decide (bst out ps = ByteArray.empty) := by
            rw [← show ByteArray.toList ByteArray.empty = [] from by simp [ByteArray.toList_eq], tleq]
          rcases bst_find HND.out HNE.out out with ⟨h1, h2⟩ | ⟨h1, h2⟩
          · rw [h2] at HGO'
            dsimp only at HGO'
            rw [← HGO'] at HO
            dsimp only at HO
            rw [decide_eq_true h1] at hse
            have HBE := Box.mk (below_tr HB2.out HB2.out.size HW1.out)
            clear h1 h2 HGO' e
            generalize bst out ps = best at *
            go_wp2_with fail
            go_ret3
            rw [HO.out]
            exact ⟨_, _, rfl, slr_nil _ _ _ _ _, HBE.out⟩
          · rw [h2] at HGO'
            dsimp only at HGO'
            rw [decide_eq_false h1] at hse
            have HGN := Box.mk HGO'
            have HFR : Box (bst out ps ∉ out) := ⟨frB_fresh (List.find?_some h2)⟩
            have HXI : Box (bst out ps ∈ nmS ps) := ⟨List.mem_of_find?_eq_some h2⟩
            clear h1 h2 HGO' e
            generalize bst out ps = best at *
            have HLA : Box ((out.length + 1) * 16 ≤ 140737488355328) := ⟨by omega⟩
            have HB7 : Box (W3.heap.size ≤ wr.heap.size) := ⟨HG.out.size⟩
            go_upto_region 22 with (at_builtin; refine wpL_app _ W3.heap.size rfl _ _ 23 9 rfl (.string ByteArray.empty) 1 16 Try.underlying23 info_str rfl (by decide) (by decide) (.slice A7 out.length c7) _ _ rfl (HR.out.alloc _) (some ⟨_, 0, none⟩) 1 1 [.string best] rfl (src_at _ _ _ _ (by simp) rfl) HLA.out (Nat.le_trans HB7.out (bel_alloc _ _).size) ?_; intro v7' wa ho7 hg7 hat7)
            have hg7' := grown_al wr hg7 rfl rfl rfl rfl
            have hv7 := own_vlen ho7
            have HMa := Box.mk (HM.out.kept hg7' (fun e => by have := (HR.out.lt _ e.symm).1; have := HSM.out; omega))
            have HGa := Box.mk (show W3.grownBy wa (some w2.heap.size) from ⟨hg7'.os.trans HG.out.os, hg7'.tape.trans HG.out.tape, hg7'.output.trans HG.out.output, Nat.le_trans HG.out.size hg7'.size, fun i hi hne => by
              rw [hg7'.block i (Nat.lt_of_lt_of_le hi HG.out.size) (fun e => by have := (HR.out.lt i e.symm).1; omega), HG.out.block i hi hne]⟩)
            obtain ⟨wb, hup, hmb, hgb, hsb⟩ := HMa.out.add best HFR.out
            have HMb := Box.mk hmb
            have HGb := Box.mk (grown_tr HGa.out hgb)
            have HOb := Box.mk (ho7.kept hgb (by
              cases hu : v7'.ownBlock with
              | none => exact .inl rfl
              | some q => exact .inr (fun e => by injection e with e; have := (ho7.lt q hu).1; have := HSM.out; omega)))
            clear ho7 hg7 hg7' hat7 hmb hgb hsb
            go_wp2_with fail
            go_roundw
            case rel => exact ⟨out ++ [best], ⟨by rw [List.length_append]; exact hlt⟩, ⟨by rw [List.length_append]; exact HGN.out⟩, HMb, ⟨by rw [List.length_append, List.map_append]; exact HOb.out⟩, HGb, ⟨fun y hy => by
              rcases List.mem_append.1 hy with hy | hy
              · exact HIN.out y hy
              · obtain rfl : y = best := by simpa using hy
                exact HXI.out⟩⟩
            case measure => rw [hv7, show vlen (Value.slice A7 out.length c7) = out.length from rfl]; omega
    · subst_vars
      have hnn : out.length = np := by have := HOL.out; omega
      subst hnn
      have HGO' := HGO.out
      rw [Nat.sub_self, ordGo] at HGO'
      rw [← HGO'] at HO
      dsimp only at HO
      obtain ⟨B', c', e', hs⟩ := own_strs HR.out (fun y hy => HSZ.out y (mem_nmS.1 (HIN.out y hy))) (by rw [LIM_eq]; omega)
      injection e' with e1 e2 e3
      subst e1 e3
      have HSE := Box.mk hs
      have HBE := Box.mk (below_tr HB2.out HB2.out.size HW1.out)
      clear hs HGO'
      go_wp2_with fail
      go_ret3
      rw [HO.out]
      exact ⟨_, _, rfl, HSE.out, HBE.out⟩
end Go.Proofs.Ytchhjldopecliaa
namespace Go.Proofs.Ytchhjldopecliaa
open Go.RowKit

/-- Do two procedures reach one another? -/
noncomputable def mtl (ps : List Pc) (s t : Str) : Bool := rchB ps s t && rchB ps t s
theorem mtl_iff {ps : List Pc} {s t : Str} : mtl ps s t = true ↔ Rch ps s t ∧ Rch ps t s := by
  unfold mtl
  rw [Bool.and_eq_true, rchB_iff, rchB_iff]
theorem mtl_refl (ps : List Pc) (s : Str) : mtl ps s s = true := mtl_iff.2 ⟨.here, .here⟩
theorem mtl_symm {ps : List Pc} {s t : Str} (h : mtl ps s t = true) : mtl ps t s = true := mtl_iff.2 (mtl_iff.1 h).symm
theorem mtl_tr {ps : List Pc} {s t u : Str} (h : mtl ps s t = true) (k : mtl ps t u = true) : mtl ps s u = true :=
  mtl_iff.2 ⟨(mtl_iff.1 h).1.tr (mtl_iff.1 k).1, (mtl_iff.1 k).2.tr (mtl_iff.1 h).2⟩
/-- All that are in one ring with a procedure. -/
noncomputable def ring (ps : List Pc) (s : Str) : List Str := (nmS ps).filter (mtl ps s)
/-- What the rings' list gets at a name. -/
noncomputable def rgAt (ps : List Pc) (i : Nat) (s : Str) : List (List Str) :=
  if ((nmS ps).take i).any (mtl ps s) then [] else if 1 < (ring ps s).length ∨ s ∈ clOf ps s then [ring ps s] else []
noncomputable def rgs (ps : List Pc) (k : Nat) : List (List Str) := (List.range k).flatMap (fun i => match (nmS ps)[i]? with
  | none => []
  | some s => rgAt ps i s)
/-- What Rings tells. -/
noncomputable def rng (ms : List Md) : List (List Str) × Int := if opn ms ≠ 0 then ([], opn ms) else (rgs (prs ms) (nmS (prs ms)).length, 0)
theorem rgs_succ {ps : List Pc} {k : Nat} {s : Str} (h : (nmS ps)[k]? = some s) : rgs ps (k + 1) = rgs ps k ++ rgAt ps k s := by
  unfold rgs
  rw [List.range_succ, List.flatMap_append]
  simp [h]

/-- A procedure that is in no ring. -/
def Lone (ps : List Pc) (s : Str) : Prop := s ∉ clOf ps s ∧ ∀ t, mtl ps s t = true → t = s
theorem Rch.out {ps : List Pc} {s t : Str} (h : Rch ps s t) : t = s ∨ ∃ y ∈ clOf ps s, Rch ps y t := by
  induction h with
  | here => exact .inl rfl
  | call hy hz ih =>
    right
    rcases ih with rfl | ⟨u, hu, hr⟩
    · exact ⟨_, hz, .here⟩
    · exact ⟨u, hu, .call hr hz⟩
theorem frB_iff {ps : List Pc} {out : List Str} {n : Str} : frB ps out n = true ↔ n ∉ out ∧ ∀ s ∈ clOf ps n, s ∈ out := by
  unfold frB
  simp only [Bool.and_eq_true, Bool.not_eq_true', decide_eq_false_iff_not, List.any_eq_false, Bool.not_eq_false', decide_eq_true_eq, Bool.not_eq_true, Classical.not_not]
theorem lone_snoc {ps : List Pc} {out : List Str} {n : Str} (hc : ClosedN ps out) (h : frB ps out n = true) : Lone ps n ∧ ClosedN ps (out ++ [n]) := by
  obtain ⟨h1, h2⟩ := frB_iff.1 h
  refine ⟨⟨fun e => h1 (h2 n e), fun t ht => ?_⟩, fun y hy z hz => ?_⟩
  · obtain ⟨r1, r2⟩ := mtl_iff.1 ht
    rcases r1.out with e | ⟨y, hy, hr⟩
    · exact e
    · exact absurd (r2.sub (hr.sub (h2 y hy) hc) hc) h1
  · rcases List.mem_append.1 hy with hy | hy
    · exact List.mem_append.2 (.inl (hc y hy z hz))
    · obtain rfl : y = n := by simpa using hy
      exact List.mem_append.2 (.inl (h2 z hz))
theorem nmS_nodup (ps : List Pc) : (nmS ps).Nodup := setS_nodup _
theorem ord_lone {ps : List Pc} : ∀ (f : Nat) (out : List Str), out.length + f = (nmS ps).length → out.Nodup → (∀ y ∈ out, y ∈ nmS ps) → ClosedN ps out → (∀ y ∈ out, Lone ps y) →
    (ordGo ps f out).2 = true → ∀ s ∈ nmS ps, Lone ps s
  | 0, out, hl, hn, hsub, _, hlo, _, s, hs => by
    by_cases h : s ∈ out
    · exact hlo s h
    · have := nodup_le (List.nodup_cons.2 ⟨h, hn⟩) (fun y hy => by
        rcases List.mem_cons.1 hy with rfl | hy
        · exact hs
        · exact hsub y hy)
      rw [List.length_cons] at this
      omega
  | f + 1, out, hl, hn, hsub, hc, hlo, hr, s, hs => by
    rw [ordGo] at hr
    cases hf : (nmS ps).find? (frB ps out) with
    | none => rw [hf] at hr; cases hr
    | some n =>
      rw [hf] at hr
      have hfr := List.find?_some hf
      obtain ⟨l1, l2⟩ := lone_snoc hc hfr
      refine ord_lone f (out ++ [n]) (by rw [List.length_append, List.length_singleton]; omega) (nodup_snoc hn (frB_iff.1 hfr).1) (fun y hy => ?_) l2 (fun y hy => ?_) hr s hs
      · rcases List.mem_append.1 hy with hy | hy
        · exact hsub y hy
        · obtain rfl : y = n := by simpa using hy
          exact List.mem_of_find?_eq_some hf
      · rcases List.mem_append.1 hy with hy | hy
        · exact hlo y hy
        · obtain rfl : y = n := by simpa using hy
          exact l1
theorem stuck_ring {ps : List Pc} (hT : AllThere ps) {out : List Str} (hf : ∀ x ∈ nmS ps, frB ps out x = false) : ∀ (m : Nat) (x : Str), (rchL ps x).length < m → x ∈ nmS ps → x ∉ out → ∃ z ∈ nmS ps, ¬ Lone ps z := by
  intro m
  induction m with
  | zero => intro x h; omega
  | succ m ih =>
    intro x hm hx hxo
    have h1 : ∃ y ∈ clOf ps x, y ∉ out := by
      refine Classical.byContradiction fun hno => ?_
      have := frB_iff.2 ⟨hxo, fun s hs => Classical.byContradiction fun h => hno ⟨s, hs, h⟩⟩
      rw [hf x hx] at this
      cases this
    obtain ⟨y, hy, hyo⟩ := h1
    obtain ⟨p, hp⟩ := mem_fnd (mem_nmS.1 hx)
    have hyn : y ∈ nmS ps := by
      obtain ⟨q, hq⟩ := hT p (fnd_some hp).1 y (by rw [← clOf_fnd hp]; exact hy)
      exact mem_nmS.2 (fnd_mem hq)
    by_cases hr : Rch ps y x
    · refine ⟨x, hx, fun hl => ?_⟩
      have := hl.2 y (mtl_iff.2 ⟨.call .here hy, hr⟩)
      subst this
      exact hl.1 hy
    · refine ih y ?_ hyn hyo
      have : (rchL ps y).length < (rchL ps x).length := by
        unfold rchL
        exact filter_lt (fun z _ hz => rchB_iff.2 (Rch.first hy (rchB_iff.1 hz))) (mem_nmS.1 hx) (rchB_iff.2 .here) (by
          cases h : rchB ps y x with
          | false => rfl
          | true => exact absurd (rchB_iff.1 h) hr)
      omega
theorem ord_stuck {ps : List Pc} (hT : AllThere ps) : ∀ (f : Nat) (out : List Str), out.length + f = (nmS ps).length → (ordGo ps f out).2 = false → ∃ z ∈ nmS ps, ¬ Lone ps z
  | 0, out, _, h => by rw [ordGo] at h; cases h
  | f + 1, out, hl, h => by
    rw [ordGo] at h
    cases hf : (nmS ps).find? (frB ps out) with
    | some n =>
      rw [hf] at h
      exact ord_stuck hT f (out ++ [n]) (by rw [List.length_append, List.length_singleton]; omega) h
    | none =>
      rw [List.find?_eq_none] at hf
      have hex : ∃ x ∈ nmS ps, x ∉ out := by
        refine Classical.byContradiction fun hno => ?_
        have := nodup_le (b := out) (nmS_nodup ps) (fun y hy => Classical.byContradiction fun h => hno ⟨y, hy, h⟩)
        omega
      obtain ⟨x, hx, hxo⟩ := hex
      exact stuck_ring hT (fun z hz => by simpa using hf z hz) _ x (Nat.lt_succ_self _) hx hxo
theorem rgs_nil {ps : List Pc} (hT : AllThere ps) : rgs ps (nmS ps).length = [] ↔ ∀ s ∈ nmS ps, Lone ps s := by
  have hat : rgs ps (nmS ps).length = [] ↔ ∀ i s, (nmS ps)[i]? = some s → rgAt ps i s = [] := by
    unfold rgs
    rw [List.flatMap_eq_nil_iff]
    constructor
    · intro h i s hs
      have := h i (List.mem_range.2 (List.getElem?_eq_some_iff.1 hs).1)
      rw [hs] at this
      exact this
    · intro h i _
      split
      · rfl
      · rename_i s hs; exact h i s hs
  rw [hat]
  have two : ∀ {s t : Str}, s ∈ nmS ps → t ∈ nmS ps → t ≠ s → mtl ps s t = true → 1 < (ring ps s).length := by
    intro s t hs ht hne hm
    have := nodup_le (a := [s, t]) (b := ring ps s) (by simp [Ne.symm hne]) (fun y hy => by
      unfold ring
      rcases List.mem_cons.1 hy with rfl | hy
      · exact List.mem_filter.2 ⟨hs, mtl_refl _ _⟩
      · obtain rfl : y = t := by simpa using hy
        exact List.mem_filter.2 ⟨ht, hm⟩)
    simp at this
    omega
  constructor
  · intro h s hs
    -- the first name that is in one ring with s
    obtain ⟨i, hi⟩ := List.mem_iff_getElem?.1 hs
    have key : ∀ (i : Nat) (s : Str), (nmS ps)[i]? = some s → (∀ u ∈ (nmS ps).take i, mtl ps s u = false) → Lone ps s := by
      intro i s hi hno
      have h0 := h i s hi
      have hs := List.mem_iff_getElem?.2 ⟨i, hi⟩
      unfold rgAt at h0
      rw [if_neg (by rw [Bool.not_eq_true, List.any_eq_false]; intro u hu; rw [hno u hu]; simp)] at h0
      by_cases hc : 1 < (ring ps s).length ∨ s ∈ clOf ps s
      · rw [if_pos hc] at h0; cases h0
      · refine ⟨fun e => hc (.inr e), fun t ht => Classical.byContradiction fun hne => hc (.inl ?_)⟩
        obtain ⟨p, hp⟩ := mem_fnd (mem_nmS.1 hs)
        obtain ⟨q, hq⟩ := (mtl_iff.1 ht).1.there hT hp
        exact two hs (mem_nmS.2 (fnd_mem hq)) hne ht
    have all : ∀ (i : Nat) (s : Str), (nmS ps)[i]? = some s → Lone ps s := by
      intro i
      induction i using Nat.strongRecOn with
      | _ i ih =>
        intro s hi
        by_cases hno : ∀ u ∈ (nmS ps).take i, mtl ps s u = false
        · exact key i s hi hno
        · obtain ⟨u, hu⟩ := Classical.not_forall.1 hno
          obtain ⟨hu1, hu2⟩ := Classical.not_imp.1 hu
          obtain ⟨j, hj⟩ := List.mem_iff_getElem?.1 hu1
          have hji : j < i := by
            have := (List.getElem?_eq_some_iff.1 hj).1
            rw [List.length_take] at this
            omega
          rw [List.getElem?_take, if_pos hji] at hj
          have hl := ih j hji u hj
          have := hl.2 s (mtl_symm (by simpa using hu2))
          rw [this]
          exact hl
    exact all i s hi
  · intro h i s hi
    have hs := List.mem_iff_getElem?.2 ⟨i, hi⟩
    obtain ⟨l1, l2⟩ := h s hs
    have hr : (ring ps s).length ≤ 1 := by
      have := nodup_le (a := ring ps s) (b := [s]) ((nmS_nodup ps).filter _) (fun y hy => by
        rw [l2 y (List.mem_filter.1 hy).2]; simp)
      simpa using this
    unfold rgAt
    split
    · rfl
    · rw [if_neg (by rintro (h | h); omega; exact l1 h)]
theorem sorted_ext' {l m : List Str} (hl : (l.map bs).Pairwise (· < ·)) (hm : (m.map bs).Pairwise (· < ·)) (h : ∀ s, s ∈ l ↔ s ∈ m) : l = m := by
  have := sorted_ext hl hm (fun x => by rw [← bs_ob x, mem_map_bs, mem_map_bs]; exact h _)
  have e : (l.map bs).map ob = (m.map bs).map ob := by rw [this]
  simpa [List.map_map, Function.comp_def, ob_bs] using e
/-- The sorted names that are reached, and the ring among them. -/
theorem reach_sorted (ps : List Pc) (x : Str) : setS (rchL ps x) = (nmS ps).filter (rchB ps x) := by
  refine sorted_ext' ?_ ?_ fun s => ?_
  · exact setS_sorted _
  · have h := setS_sorted (ps.map (·.nm))
    rw [List.pairwise_map] at h ⊢
    exact h.filter _
  · rw [mem_setS, mem_rchL, List.mem_filter, mem_nmS, rchB_iff]
theorem ring_filter (ps : List Pc) (x : Str) : ring ps x = ((nmS ps).filter (rchB ps x)).filter (fun t => rchB ps t x) := by
  unfold ring
  rw [List.filter_filter]
  congr 1
  funext t
  rw [mtl, Bool.and_comm]

/-- There is an order just where there are no rings. -/
theorem ord_rng {ms : List Md} (h0 : opn ms = 0) : (ord ms).2.1 = decide ((rng ms).1.length = 0) := by
  have hT := opn_all h0
  have e1 : (ord ms).2.1 = (ordGo (prs ms) (nmS (prs ms)).length []).2 := by simp [ord, h0]
  have e2 : (rng ms).1 = rgs (prs ms) (nmS (prs ms)).length := by simp [rng, h0]
  rw [e1, e2, Bool.eq_iff_iff, decide_eq_true_iff, List.length_eq_zero_iff, rgs_nil hT]
  constructor
  · exact ord_lone _ [] (by simp) List.nodup_nil (by simp) (by intro y hy; cases hy) (by simp)
  · intro h
    cases hq : (ordGo (prs ms) (nmS (prs ms)).length []).2 with
    | true => rfl
    | false =>
      obtain ⟨z, hz, hn⟩ := ord_stuck hT _ [] (by simp) hq
      exact absurd (h z hz) hn
end Go.Proofs.Ytchhjldopecliaa
namespace Go.Proofs.Ytchhjldopecliaa
open Go.RowKit

/-- For each of some names, in order, the set of what it reaches lies there. -/
def MapR (ps : List Pc) (w : World) (bm lo : Nat) (l : List Str) : Prop :=
  bm < lo ∧ ∃ kvs, MapK encS w bm kvs ∧ kvs.map (·.1) = l ∧ ∀ kv ∈ kvs, ∃ bx S, kv.2 = .map (some bx) ∧ lo ≤ bx ∧ MapS w bx S ∧ Found ps kv.1 [] S
theorem zero_map (w : World) : (zeroValue 82).run Try.prog w = .ok (.map none) w := by kernel_rfl
section
variable {ps : List Pc} {w w' : World} {bm lo : Nat} {l : List Str}
theorem MapR_made (ps : List Pc) (w : World) (lo : Nat) (hlo : w.heap.size < lo) : MapR ps (w.alloc (.map #[] 0)) w.heap.size lo [] := ⟨hlo, [], MapK_made w encS, rfl, by simp⟩
theorem MapR.below (h : MapR ps w bm lo l) (hb : Below w.heap.size w w') : MapR ps w' bm lo l := by
  obtain ⟨h0, kvs, h1, h2, h3⟩ := h
  refine ⟨h0, kvs, h1.below hb, h2, fun kv hkv => ?_⟩
  obtain ⟨bx, S, e, hlt, hS, hF⟩ := h3 kv hkv
  exact ⟨bx, S, e, hlt, hS.below hb, hF⟩
theorem MapR.lt (h : MapR ps w bm lo l) : bm < w.heap.size := by
  obtain ⟨_, kvs, h1, _⟩ := h
  exact h1.lt
/-- It stays where another block below the sets turns. -/
theorem MapR.kept {r : Nat} (h : MapR ps w bm lo l) (hg : w.grownBy w' (some r)) (hr : r ≠ bm ∧ r < lo) : MapR ps w' bm lo l := by
  obtain ⟨h0, kvs, h1, h2, h3⟩ := h
  refine ⟨h0, kvs, MapK.kept h1 hg (fun e => by injection e with e; omega), h2, fun kv hkv => ?_⟩
  obtain ⟨bx, S, e, hlt, hS, hF⟩ := h3 kv hkv
  exact ⟨bx, S, e, hlt, hS.kept hg (fun e => by injection e with e; omega), hF⟩
theorem MapR.add (h : MapR ps w bm lo l) {x : Str} (hx : x ∉ l) {bx : Nat} {S : List Str} (hlt : lo ≤ bx) (hS : MapS w bx S) (hF : Found ps x [] S) :
    ∃ w', (Instr.mapUpdate 96 (.map (some bm)) (.string x) (.map (some bx))).run Try.prog w = .ok () w' ∧ MapR ps w' bm lo (l ++ [x]) ∧ w.grownBy w' (some bm) ∧ w'.heap.size = w.heap.size := by
  obtain ⟨h0, kvs, h1, h2, h3⟩ := h
  obtain ⟨w', hu, hk, hg, hs⟩ := MapK.update (P := Try.prog) h1 keyS Try.underlying96 x (.map (some bx))
  refine ⟨w', hu, ⟨h0, kvs ++ [(x, .map (some bx))], ?_, by rw [List.map_append, h2]; rfl, fun kv hkv => ?_⟩, hg, hs⟩
  · rwa [setK_new (getK_none.2 (fun kv hkv e => hx (by rw [← h2, ← e]; exact List.mem_map_of_mem hkv)))] at hk
  · rcases List.mem_append.1 hkv with hkv | hkv
    · obtain ⟨b1, S1, e, hl, hS1, hF1⟩ := h3 kv hkv
      exact ⟨b1, S1, e, hl, hS1.kept hg (fun e => by injection e with e; omega), hF1⟩
    · obtain rfl : kv = (x, .map (some bx)) := by simpa using hkv
      exact ⟨bx, S, rfl, hlt, hS.kept hg (fun e => by injection e with e; omega), hF⟩
theorem MapR.look (h : MapR ps w bm lo l) {x : Str} (hx : x ∈ l) : ∃ bx S, (Instr.lookup 96 (.map (some bm)) (.string x) false).run Try.prog w = .ok (.map (some bx)) w ∧ MapS w bx S ∧ Found ps x [] S := by
  obtain ⟨h0, kvs, h1, h2, h3⟩ := h
  cases hg : getK x kvs with
  | none =>
    rw [← h2] at hx
    obtain ⟨kv, hkv, e⟩ := List.mem_map.1 hx
    exact absurd e (getK_none.1 hg kv hkv)
  | some v =>
    obtain ⟨bx, S, e, hl, hS, hF⟩ := h3 _ (getK_some hg)
    have e : v = .map (some bx) := e
    subst e
    exact ⟨bx, S, (h1.look keyS Try.underlying96 (zero_map w) hg).1, hS, hF⟩
end
section
variable {κ : Type} {enc : κ → Value} {w w' : World} {b r : Nat} {left kvs : List (κ × Value)}
theorem RangeK.keep {row : Option Nat} (h : RangeK enc w b r left kvs) (hg : w.grownBy w' row) (h1 : row ≠ some b) (h2 : row ≠ some r) : RangeK enc w' b r left kvs := by
  obtain ⟨es, clock, seen, hb, hE, hr, hl⟩ := h
  exact ⟨es, clock, seen, (hg.block b (Array.getElem?_eq_some_iff.1 hb).1 (fun e => h1 e.symm)).trans hb, hE, (hg.block r (Array.getElem?_eq_some_iff.1 hr).1 (fun e => h2 e.symm)).trans hr, hl⟩
end
end Go.Proofs.Ytchhjldopecliaa
namespace Go.Proofs.Ytchhjldopecliaa
open Go.RowKit

theorem rgs_len (ps : List Pc) : ∀ k, (rgs ps k).length ≤ k
  | 0 => Nat.le_refl _
  | k + 1 => by
    have ih := rgs_len ps k
    cases hs : (nmS ps)[k]? with
    | none =>
      have : rgs ps (k + 1) = rgs ps k := by unfold rgs; rw [List.range_succ, List.flatMap_append]; simp [hs]
      rw [this]; omega
    | some s =>
      rw [rgs_succ hs, List.length_append]
      have : (rgAt ps k s).length ≤ 1 := by
        unfold rgAt
        split
        · simp
        · split <;> simp
      omega

set_option maxRecDepth 100000 in
set_option maxHeartbeats 4000000 in
theorem c_Rings (A : Option Addr) (n c : Nat) (ms : List Md) (w : World) (h : SlR w 5 RMd A n c ms) :
    Calls Try.prog 37 #[.slice A n c] w fun e w' => ∃ A' c', e = .returned (.tuple #[.slice A' (rng ms).1.length c', .int .i64 (rng ms).2]) ∧ SlR w' 1 (RSl 1 RStr) A' (rng ms).1.length c' (rng ms).1 ∧ Below w.heap.size w w' := by
  have hlim := h.lim
  have H := Box.mk h
  clear h
  go_enter Try.func37, Try.ntmps37
  have hmm := @run_makeMap Try.prog
  go_wp2_with fail
  refine (c_openM A n c ms w H.out).mono ?_
  rintro e w1 ⟨⟨o, rfl, hv⟩, hb1⟩
  have HB1 := Box.mk hb1
  clear hb1
  by_cases h0 : opn ms = 0
  case neg =>
    have HO : Box (rng ms = ([], opn ms)) := ⟨by simp [rng, h0]⟩
    have h0' : (opn ms != 0) = true := by simpa using h0
    clear hv
    generalize opn ms = V at *
    go_wp2_with fail
    go_ret2
    rw [HO.out]
    exact ⟨_, _, rfl, slr_nil _ _ _ _ _, HB1.out⟩
  case pos =>
  obtain ⟨hg, bp, rfl, hm, hbl⟩ := hv h0
  have HO : Box (rng ms = (rgs (prs ms) (nmS (prs ms)).length, 0)) := ⟨by simp [rng, h0]⟩
  have HN := Box.mk (srtS_nm hg)
  have HNL := Box.mk (nmS_len hg)
  have HSZ := Box.mk (prs_sizes H.out)
  have HMP := Box.mk hm
  have HT := Box.mk (opn_all h0)
  have HPC : Box (∀ p ∈ prs ms, p.cl.length ≤ 100) := ⟨fun p hp => hg.pcalls hp⟩
  have HFN : Box (∀ x ∈ (prs ms).map (·.nm), ∃ p, fnd x (prs ms) = some p) := ⟨fun x hx => mem_fnd hx⟩
  have HND := Box.mk hg.nms
  have HPLL := Box.mk hg.plen
  obtain ⟨kvs, hk, hpv⟩ := hm
  have HBP := Box.mk hk.lt
  obtain ⟨w3, hr3, hR3, hb3, hs3⟩ := MapK.range (P := Try.prog) (hk.below (bel_alloc w1 (.map #[] 0))) Try.underlying57
  have HK := Box.mk hk
  have HKL : Box (kvs.length ≤ 1000000) := ⟨by
    have h1 := congrArg List.length hpv.keys
    rw [List.length_map, List.length_map] at h1
    have := hg.plen
    omega⟩
  have HKN := Box.mk hpv.keys
  have HR3 := Box.mk hR3
  have HM3 : Box (MapR (prs ms) w3 w1.heap.size (w1.heap.size + 2) []) := ⟨(MapR_made (prs ms) w1 (w1.heap.size + 2) (by omega)).below hb3⟩
  have HB3 : Box (Below w1.heap.size w1 w3) := ⟨below_tr (bel_alloc w1 (.map #[] 0)) (bel_alloc w1 (.map #[] 0)).size hb3⟩
  have HS3 : Box (w3.heap.size = w1.heap.size + 2) := ⟨by rw [hs3]; simp⟩
  rw [show (w1.alloc (.map #[] 0)).heap.size = w1.heap.size + 1 by simp] at hr3 HR3
  rw [h0]
  clear hv hk hpv hg hbl h0 hR3 hb3 hs3
  generalize prs ms = ps at *
  go_wp2_with fail
  clear hr3
  go_loopg [7] kvs.length (fun g _ wr => ∃ (pre : List Str) (left : List (Str × Value)), g = left.length ∧ Box ((pre ++ left.map (·.1)).Perm (kvs.map (·.1))) ∧ Box (RangeK encS wr bp (w1.heap.size + 1) left kvs) ∧ Box (MapR ps wr w1.heap.size (w1.heap.size + 2) pre) ∧ Box (Below w1.heap.size w1 wr) ∧ Box (w1.heap.size + 2 ≤ wr.heap.size))
  case atStart => exact ⟨[], kvs, rfl, ⟨List.Perm.refl _⟩, HR3, HM3, HB3, ⟨by rw [HS3.out]; exact Nat.le_refl _⟩⟩
  case round =>
    clear HR3 HM3 HB3 HS3
    obtain ⟨pre, left, rfl, HPM, HR, HM, HB, HS⟩ := hrel
    rcases RangeK.next (P := Try.prog) HR.out 0 with ⟨rfl, hr⟩ | ⟨l1, x, v, l2, w2, rfl, hr, hr', hR2, hg2, hs2⟩
    · have HALL : Box (∀ x ∈ nmS ps, x ∈ pre) := ⟨fun x hx => by
        have h1 := HPM.out
        rw [List.map_nil, List.append_nil, HKN.out] at h1
        exact h1.symm.subset (mem_nmS.1 hx)⟩
      have HKW := Box.mk (HK.out.below HB.out)
      have HS0 := Box.mk (MapS_made wr)
      have HBM := Box.mk (bel_alloc wr (.map #[] 0))
      have HSM : Box ((wr.alloc (.map #[] 0)).heap.size = wr.heap.size + 1) := ⟨by simp⟩
      clear HR HPM
      go_wp2_with fail
      clear hr
      have HM0 := HM
      have HPL : Box (ps.length ≤ 100) := HPLL
      have HB6 := Box.mk (below_tr HB.out HB.out.size HBM.out)
      have HK6 := Box.mk (HKW.out.below HBM.out)
      have HLO : Box (w1.heap.size + 2 ≤ wr.heap.size) := HS
      have HBM0 := HBM
      clear HM HB HKW HS HBM
      generalize wr.alloc (.map #[] 0) = W6 at *
      generalize hbd : wr.heap.size = bd at *
      have HBD := Box.mk hbd
      clear hbd
      refine (c_KeysP (some bp) W6).mono ?_
      rintro e W7 ⟨rfl, hw7⟩
      have CS := Box.mk (c_SortedKeysP bp kvs W6 W7 HK6.out hw7 HKL.out)
      have HB7 : Box (Below W6.heap.size W6 W7) := ⟨hw7 ▸ bel_alloc _ _⟩
      clear hw7
      go_wp2_with fail
      refine CS.out.mono ?_
      rintro e w8 ⟨v9, rfl, ho, hb8⟩
      rw [HKN.out, HN.out] at ho
      have HB8 := Box.mk (below_tr HB7.out HB7.out.size hb8)
      obtain ⟨A9, c9, rfl, hs9⟩ := own_strsO (ok := fun b => b ≠ bd) ho (fun y hy => HSZ.out y (mem_nmS.1 hy)) (by have := HNL.out; rw [LIM_eq]; omega) (fun b hb => by have := (ho.lt b hb).1; have := HB7.out.size; have := HSM.out; omega)
      have HS9 := Box.mk hs9
      have G0 := Box.mk (HS0.out.below HB8.out)
      have GV : Box (Below bd wr w8) := ⟨HBM0.out.trans (HB8.out.mono (by rw [HSM.out]; omega))⟩
      have GB := Box.mk (below_tr HB6.out HB6.out.size HB8.out)
      have GS : Box (bd < w8.heap.size ∧ w1.heap.size + 2 ≤ bd) := ⟨by have := HB8.out.size; have := HSM.out; omega, HLO.out⟩
      obtain ⟨nn, hnn⟩ : ∃ nn, nn = (nmS ps).length := ⟨_, rfl⟩
      rw [← hnn] at HO HS9 HNL ⊢
      have HNN := Box.mk hnn
      clear ho hs9 hb8 CS HB7 HB8 HB6 HK6 HS0 HSM HLO hnn HBM0
      go_wp2_with fail
      go_loopw [8, 11, 12, 14, 40] (fun v8 _ _ _ i wx => ∃ (k : Nat) (D : List Str), k ≤ nn ∧ i = .int .i64 k ∧ Box (MapS wx bd D) ∧ Box (∀ t, t ∈ D ↔ t ∈ nmS ps ∧ ((nmS ps).take k).any (mtl ps t) = true) ∧ Box (w8.grownBy wx (some bd)) ∧ Box (OwnO (fun b => w8.heap.size ≤ b ∧ some b ≠ v8.ownBlock) wx w8.heap.size 23 1 (RSlO 1 RStrO) v8 (rgs ps k))) (fun _ _ _ _ i _ => nn - (intOf i).toNat)
      case atStart => exact ⟨0, [], Nat.zero_le _, rfl, G0, ⟨by simp⟩, ⟨World.grownBy.refl _ _⟩, ⟨OwnO.nil⟩⟩
      case round =>
        obtain ⟨k, D, hk, rfl, HD, HDI, HG, HR⟩ := hrel
        have hnl := HNL.out
        have HW1 := Box.mk (GB.out.grown HG.out GB.out.size (fun q hq => by injection hq with hq; have := GS.out.2; omega))
        by_cases hkl : k < nn
        · have HS' := Box.mk (HS9.out.kept rdStr HG.out (fun b e h => by injection e with e; exact h e.symm))
          obtain ⟨b5, o5, s, rfl, hb5, hx5, hs5, hc5⟩ := (HS'.out.rd rdStr).str_at k hkl
          have HX := Box.mk hx5
          have HRS := Box.mk (rgs_succ hx5)
          have hlk := HD.out.look s
          have HTK : Box (∀ t, ((nmS ps).take (k + 1)).any (mtl ps t) = (((nmS ps).take k).any (mtl ps t) || mtl ps t s)) := ⟨fun t => by rw [List.take_add_one, hx5]; simp⟩
          have HSN : Box (s ∈ nmS ps) := ⟨List.mem_iff_getElem?.2 ⟨k, hx5⟩⟩
          clear hx5 hs5 hb5
          by_cases hin : s ∈ D
          · rw [decide_eq_true hin] at hlk
            have hany := ((HDI.out s).1 hin).2
            have HRG : Box (rgs ps (k + 1) = rgs ps k) := ⟨by rw [HRS.out, rgAt, if_pos hany, List.append_nil]⟩
            have HDI' : Box (∀ t, t ∈ D ↔ t ∈ nmS ps ∧ ((nmS ps).take (k + 1)).any (mtl ps t) = true) := ⟨fun t => by
              rw [HDI.out, HTK.out]
              refine and_congr_right fun _ => ?_
              rw [Bool.or_eq_true]
              refine ⟨.inl, fun h => h.elim id fun h => ?_⟩
              obtain ⟨u, hu1, hu2⟩ := List.any_eq_true.1 hany
              exact List.any_eq_true.2 ⟨u, hu1, mtl_tr h hu2⟩⟩
            clear hin hany
            go_wp2_with fail
            go_roundw
            case rel => exact ⟨k + 1, D, by omega, by go_num, HD, HDI', HG, by rw [HRG.out]; exact HR⟩
            case measure => simp [intOf] <;> omega
          · rw [decide_eq_false hin] at hlk
            have HNIN := Box.mk hin
            have HVx : Box (Below bd _ wr) := ⟨GV.out.grown HG.out (by have := GV.out.size; have := HBD.out; omega) (fun q hq => by injection hq with hq; omega)⟩
            have HMx : Box (MapR ps wr w1.heap.size (w1.heap.size + 2) pre) := ⟨HM0.out.below (by rw [HBD.out]; exact HVx.out)⟩
            obtain ⟨b3, S, hlk96, hS3, hF3⟩ := HMx.out.look (HALL.out s HSN.out)
            have HF3 := Box.mk hF3
            have CK := Box.mk (fun wa (hw : wr.alloc (.cells #[.map (some b3)] 82) = wa) => c_SortedKeysB b3 _ wr wa hS3 hw (by rw [List.length_map]; have := HF3.out.len HPL.out; omega))
            clear hin hS3 hF3
            go_wp2_with fail
            refine (c_KeysB (some b3) wr).mono ?_
            rintro e w3 ⟨rfl, hw3⟩
            have HBa : Box (Below wr.heap.size wr w3) := ⟨hw3 ▸ bel_alloc _ _⟩
            have CK' := Box.mk (CK.out w3 hw3)
            clear hw3 CK
            go_wp2_with fail
            refine CK'.out.mono ?_
            rintro e w4 ⟨v4, rfl, ho, hb4⟩
            rw [keys_set, srtS_nodup HF3.out.nodup, HF3.out.setS, reach_sorted] at ho
            have HB4 := Box.mk (below_tr HBa.out HBa.out.size hb4)
            obtain ⟨A4, c4, rfl, hs4⟩ := own_strsO (ok := fun b => b ≠ bd) ho (fun y hy => HSZ.out y (mem_nmS.1 (List.mem_filter.1 hy).1)) (by
              have := List.length_filter_le (rchB ps s) (nmS ps)
              have := HNN.out
              rw [LIM_eq]; omega) (fun b hb => by have := (ho.lt b hb).1; have := HBa.out.size; have := HD.out.lt; omega)
            have HS4 := Box.mk hs4
            have HD4 := Box.mk (HD.out.below HB4.out)
            have HV4 : Box (Below bd _ w4) := ⟨HVx.out.trans (HB4.out.mono (by have := HD.out.lt; omega))⟩
            have HLN : Box (((nmS ps).filter (rchB ps s)).Nodup) := ⟨(nmS_nodup ps).filter _⟩
            have HLE : Box (((nmS ps).filter (rchB ps s)).length ≤ 100) := ⟨by
              have := List.length_filter_le (rchB ps s) (nmS ps)
              have := HNN.out
              omega⟩
            have HLM : Box (∀ t ∈ (nmS ps).filter (rchB ps s), t ∈ nmS ps ∧ Rch ps s t) := ⟨fun t ht => ⟨(List.mem_filter.1 ht).1, rchB_iff.1 (List.mem_filter.1 ht).2⟩⟩
            have HRF := Box.mk (ring_filter ps s)
            clear ho hs4 hb4 CK' hlk hlk96
            generalize (nmS ps).filter (rchB ps s) = L at *
            obtain ⟨nL, hnL⟩ : ∃ nL, nL = L.length := ⟨_, rfl⟩
            rw [← hnL] at HS4 HLE ⊢
            have HNL2 := Box.mk hnL
            clear hnL
            go_wp2_with fail
            go_loopw [12, 14, 53] (fun v12 _ i wx => ∃ j : Nat, j ≤ nL ∧ i = .int .i64 j ∧ Box (MapS wx bd (D ++ (L.take j).filter (fun t => rchB ps t s))) ∧ Box (wx.ownsRow w4.heap.size 9 1 v12 ((L.take j).filter (fun t => rchB ps t s)).length (((L.take j).filter (fun t => rchB ps t s)).map Value.string)) ∧ Box (w4.grownBy wx (some bd))) (fun _ _ i _ => nL - (intOf i).toNat)
            case atStart => exact ⟨0, Nat.zero_le _, rfl, ⟨by simpa using HD4.out⟩, ⟨World.ownsRow_nil _ _ _ _⟩, ⟨World.grownBy.refl _ _⟩⟩
            case round =>
              obtain ⟨j, hj, rfl, HE, HO12, HG4⟩ := hrel
              have hnl2 := HLE.out
              have HV5 : Box (Below bd _ wr) := ⟨HV4.out.grown HG4.out (by have := HV4.out.size; have := HBD.out; omega) (fun q hq => by injection hq with hq; omega)⟩
              by_cases hjl : j < nL
              · have HS4' := Box.mk (HS4.out.kept rdStr HG4.out (fun b e h => by injection e with e; exact h e.symm))
                obtain ⟨b6, o6, t, rfl, hb6, hx6, hs6, hc6⟩ := (HS4'.out.rd rdStr).str_at j hjl
                have HTL : Box (t ∈ L) := ⟨List.mem_iff_getElem?.2 ⟨j, hx6⟩⟩
                have HMx5 : Box (MapR ps wr w1.heap.size (w1.heap.size + 2) pre) := ⟨HM0.out.below (by rw [HBD.out]; exact HV5.out)⟩
                obtain ⟨b7, S7, hlk96, hS7, hF7⟩ := HMx5.out.look (HALL.out t (HLM.out t HTL.out).1)
                have hlk82 := hS7.look s
                rw [show decide (s ∈ S7) = rchB ps t s by rw [Bool.eq_iff_iff, rchB_iff, decide_eq_true_iff]; exact hF7.all s] at hlk82
                have HTK2 : Box ((L.take (j + 1)).filter (fun t => rchB ps t s) = (L.take j).filter (fun t => rchB ps t s) ++ if rchB ps t s then [t] else []) := ⟨by
                  rw [List.take_add_one, hx6, Option.toList_some, List.filter_append]
                  congr 1
                  cases hq : rchB ps t s <;> simp [hq]⟩
                have HFR : Box (rchB ps t s = true → t ∉ D ++ (L.take j).filter (fun t => rchB ps t s)) := ⟨fun hq hm => by
                  rcases List.mem_append.1 hm with hm | hm
                  · obtain ⟨u, hu1, hu2⟩ := List.any_eq_true.1 ((HDI.out t).1 hm).2
                    exact HNIN.out ((HDI.out s).2 ⟨HSN.out, List.any_eq_true.2 ⟨u, hu1, mtl_tr (mtl_iff.2 ⟨(HLM.out t HTL.out).2, rchB_iff.1 hq⟩) hu2⟩⟩)
                  · have hmt := (List.mem_filter.1 hm).1
                    obtain ⟨i, hi⟩ := List.mem_iff_getElem?.1 hmt
                    have hij : i < j := by
                      have := (List.getElem?_eq_some_iff.1 hi).1
                      rw [List.length_take] at this
                      omega
                    rw [List.getElem?_take, if_pos hij] at hi
                    have := (List.getElem?_inj (List.getElem?_eq_some_iff.1 hi).1 HLN.out).1 (hi.trans hx6.symm)
                    omega⟩
                have HEL : Box (((L.take j).filter (fun t => rchB ps t s)).length ≤ 100) := ⟨Nat.le_trans (List.length_filter_le ..) (by rw [List.length_take]; omega)⟩
                clear hx6 hs6 hb6 hS7 hF7
                generalize (L.take j).filter (fun t => rchB ps t s) = E at *
                generalize rchB ps t s = q at *
                cases q
                · rw [if_neg (by simp), List.append_nil] at HTK2
                  go_wp2_with fail
                  go_roundw
                  case rel => exact ⟨j + 1, by omega, by go_num, by rw [HTK2.out]; exact HE, by rw [HTK2.out]; exact HO12, HG4⟩
                  case measure => simp [intOf] <;> omega
                · rw [if_pos rfl] at HTK2
                  have HLA : Box ((E.length + 1) * 16 ≤ 140737488355328) := ⟨by have := HEL.out; omega⟩
                  have HB7 : Box (w4.heap.size ≤ wr.heap.size) := ⟨HG4.out.size⟩
                  have HBDL : Box (bd < w4.heap.size) := ⟨HD4.out.lt⟩
                  go_upto_region 21 with (at_builtin; refine wpL_app _ w4.heap.size rfl _ _ 23 9 rfl (.string ByteArray.empty) 1 16 Try.underlying23 info_str rfl (by decide) (by decide) u12 _ _ rfl (HO12.out.alloc _) (some ⟨_, 0, none⟩) 1 1 [.string t] rfl (src_at _ _ _ _ (by simp) rfl) HLA.out (Nat.le_trans HB7.out (bel_alloc _ _).size) ?_; intro v12' wa ho12 hg12 hat12)
                  have hg12' := grown_al wr hg12 rfl rfl rfl rfl
                  have HMa := Box.mk (HE.out.kept hg12' (fun e => by have := (HO12.out.lt _ e.symm).1; have := HBDL.out; omega))
                  have HGa := Box.mk (show w4.grownBy wa (some bd) from ⟨hg12'.os.trans HG4.out.os, hg12'.tape.trans HG4.out.tape, hg12'.output.trans HG4.out.output, Nat.le_trans HG4.out.size hg12'.size, fun i hi hne => by
                    rw [hg12'.block i (Nat.lt_of_lt_of_le hi HG4.out.size) (fun e => by have := (HO12.out.lt i e.symm).1; omega), HG4.out.block i hi hne]⟩)
                  obtain ⟨wb, hup, hmb, hgb, hsb⟩ := HMa.out.add t (HFR.out rfl)
                  have HMb := Box.mk hmb
                  have HGb := Box.mk (grown_tr HGa.out hgb)
                  have HOb := Box.mk (ho12.kept hgb (by
                    cases hu : v12'.ownBlock with
                    | none => exact .inl rfl
                    | some q => exact .inr (fun e => by injection e with e; have := (ho12.lt q hu).1; have := HBDL.out; omega)))
                  clear ho12 hg12 hg12' hat12 hmb hgb hsb hlk96 hlk82
                  go_wp2_with fail
                  go_roundw
                  case rel => exact ⟨j + 1, by omega, by go_num, by rw [HTK2.out, ← List.append_assoc]; exact HMb, by rw [HTK2.out, List.length_append, List.map_append]; exact HOb, HGb⟩
                  case measure => simp [intOf] <;> omega
              · obtain rfl : j = nL := by omega
                rw [List.take_of_length_le (by rw [← HNL2.out]; exact Nat.le_refl _), ← HRF.out] at HE HO12
                have HANY : Box (¬ ((nmS ps).take k).any (mtl ps s) = true) := ⟨fun h => HNIN.out ((HDI.out s).2 ⟨HSN.out, h⟩)⟩
                have HDI' : Box (∀ t, t ∈ D ++ ring ps s ↔ t ∈ nmS ps ∧ ((nmS ps).take (k + 1)).any (mtl ps t) = true) := ⟨fun t => by
                  rw [List.mem_append, HDI.out, HTK.out, Bool.or_eq_true, ring, List.mem_filter]
                  constructor
                  · rintro (⟨a, b⟩ | ⟨a, b⟩)
                    · exact ⟨a, .inl b⟩
                    · exact ⟨a, .inr (mtl_symm b)⟩
                  · rintro ⟨a, b | b⟩
                    · exact .inl ⟨a, b⟩
                    · exact .inr ⟨a, mtl_symm b⟩⟩
                have hrl : (ring ps s).length ≤ 100 := by
                  have := List.length_filter_le (mtl ps s) (nmS ps)
                  have := HNN.out
                  unfold ring
                  omega
                have HRK : Box (k ≤ 100) := ⟨by omega⟩
                have HG8 := Box.mk (grown_tr (grown_tr HG.out (below_gb HB4.out (some bd))) HG4.out)
                have HBX : Box (bd < w4.heap.size) := ⟨HD4.out.lt⟩
                obtain ⟨B12, d12, e12, hs12⟩ := own_strsO (ok := fun b => (w8.heap.size ≤ b ∧ some b ≠ u8.ownBlock) ∧ b < wr.heap.size) HO12.out (fun y hy => HSZ.out y (mem_nmS.1 (List.mem_filter.1 hy).1)) (by rw [LIM_eq]; omega) (fun b hb => by
                  have h1 := HO12.out.lt b hb
                  have h2 := HB4.out.size
                  have h3 := HG.out.size
                  exact ⟨⟨by omega, fun e => by have := (HR.out.lt b e.symm).2; omega⟩, h1.2⟩)
                subst e12
                have HEL : Box (RSlO 1 RStrO (fun b => (w8.heap.size ≤ b ∧ some b ≠ u8.ownBlock) ∧ b < wr.heap.size) wr (ring ps s) [.slice B12 (ring ps s).length d12]) := ⟨⟨B12, _, d12, rfl, hs12⟩⟩
                have HR4 := HR.out.below (rdSl rdStr) HB4.out
                have HR8 := Box.mk ((HR4.kept (rdSl rdStr) HG4.out (by
                  cases hu : u8.ownBlock with
                  | none => exact .inl rfl
                  | some q => exact .inr (fun e => by injection e with e; have := (HR.out.lt q hu).1; have := GS.out; omega)) (fun b e h => by injection e with e; have := h.1; have := GS.out; omega)).weak (rdSl rdStr) (ok' := fun b => (w8.heap.size ≤ b ∧ some b ≠ u8.ownBlock) ∧ b < wr.heap.size) (fun b hb h => ⟨h, hb⟩))
                obtain ⟨flat, how, hpc⟩ := HR8.out.opened (rdSl rdStr)
                have HOW := Box.mk how
                have PC := Box.mk hpc
                have HB8w : Box (w8.heap.size ≤ wr.heap.size) := ⟨HG8.out.size⟩
                have HLR : Box ((rgs ps k).length ≤ 100) := ⟨Nat.le_trans (rgs_len ps k) HRK.out⟩
                have HLC : Box (((rgs ps k).length + 1) * 24 ≤ 140737488355328) := ⟨by have := HLR.out; omega⟩
                have HW5 := Box.mk (GB.out.grown HG8.out GB.out.size (fun q hq => by injection hq with hq; have := GS.out.2; omega))
                obtain ⟨p, hf⟩ := HFN.out s (mem_nmS.1 HSN.out)
                obtain ⟨kvs', hk', hpv'⟩ := HMP.out.below HW5.out
                obtain ⟨v, hv, A7, n7, c7, rfl, hq⟩ := hpv'.get_some hf
                have hlk57 := (hk'.look keyS Try.underlying57 (zero_proc wr) hv).1
                have hfd := field64_1 p.ov A7 n7 c7
                have CC := Box.mk (c_Contains s A7 n7 c7 p.cl wr hq)
                have HCL : Box (clOf ps s = p.cl) := ⟨clOf_fnd hf⟩
                generalize hlr : (ring ps s).length = lr at *
                have HLRR := Box.mk hlr
                clear how hpc hs12 hf hk' hpv' hv hq hlr HR4
                by_cases h1 : 1 < lr
                · have hd : decide (1 < lr) = true := decide_eq_true h1
                  have hd2 : decide ((1 : Int) < (lr : Int)) = true := decide_eq_true (by omega)
                  have H1 := Box.mk h1
                  clear h1
                  have HRG : Box (rgs ps (k + 1) = rgs ps k ++ [ring ps s]) := ⟨by rw [HRS.out, rgAt, if_neg HANY.out, if_pos (.inl (by rw [HLRR.out]; exact H1.out))]⟩
                  go_wp2_with (at_builtin; refine wpL_app _ w8.heap.size rfl _ _ 31 23 rfl (.slice none 0 0) 1 24 Try.underlying31 info_sl rfl (by decide) (by decide) u8 _ flat rfl (HOW.out.alloc _) (some ⟨_, 0, none⟩) 1 1 [.slice B12 lr d12] rfl (src_at _ _ _ _ (by simp) rfl) HLC.out (Nat.le_trans HB8w.out (bel_alloc _ _).size) ?_; intro v8' wa ho8 hg8 hat8)
                  have hg8' := grown_al wr hg8 rfl rfl rfl rfl
                  have HN := Box.mk (PC.out wa v8' (ring ps s) _ rfl HEL.out ho8 hg8' (fun b e h => h.1.2 e.symm))
                  have HN2 := Box.mk (HN.out.weak (rdSl rdStr) (ok' := fun b => w8.heap.size ≤ b ∧ some b ≠ v8'.ownBlock) (fun b _ h => ⟨h.1.1, fun e => by
                    rcases hat8 with e2 | e2
                    · exact h.1.2 (e.trans e2)
                    · rw [e2] at e; injection e with e; have h3 := h.2; simp at e; omega⟩))
                  have HGa := Box.mk (show w8.grownBy wa (some bd) from ⟨hg8'.os.trans HG8.out.os, hg8'.tape.trans HG8.out.tape, hg8'.output.trans HG8.out.output, Nat.le_trans HG8.out.size hg8'.size, fun i hi hne => by
                    rw [hg8'.block i (Nat.lt_of_lt_of_le hi HG8.out.size) (fun e => by have := (HOW.out.lt i e.symm).1; omega), HG8.out.block i hi hne]⟩)
                  have HMa := Box.mk (HE.out.kept hg8' (fun e => by have := (HOW.out.lt _ e.symm).1; have := GS.out; omega))
                  go_roundw
                  case rel => exact ⟨k + 1, D ++ ring ps s, by omega, by go_num, HMa, HDI', HGa, by rw [HRG.out]; exact HN2⟩
                  case measure => simp [intOf] <;> omega
                · have hd : decide (1 < lr) = false := decide_eq_false h1
                  have hd2 : decide ((1 : Int) < (lr : Int)) = false := decide_eq_false (by omega)
                  have H1 := Box.mk h1
                  clear h1
                  go_wp2_with fail
                  refine CC.out.mono ?_
                  rintro e _ ⟨rfl, rfl⟩
                  by_cases hcl : s ∈ p.cl
                  · rw [decide_eq_true hcl]
                    have H2 := Box.mk hcl
                    clear hcl
                    have HRG : Box (rgs ps (k + 1) = rgs ps k ++ [ring ps s]) := ⟨by rw [HRS.out, rgAt, if_neg HANY.out, if_pos (.inr (by rw [HCL.out]; exact H2.out))]⟩
                    go_wp2_with (at_builtin; refine wpL_app _ w8.heap.size rfl _ _ 31 23 rfl (.slice none 0 0) 1 24 Try.underlying31 info_sl rfl (by decide) (by decide) u8 _ flat rfl (HOW.out.alloc _) (some ⟨_, 0, none⟩) 1 1 [.slice B12 lr d12] rfl (src_at _ _ _ _ (by simp) rfl) HLC.out (Nat.le_trans HB8w.out (bel_alloc _ _).size) ?_; intro v8' wa ho8 hg8 hat8)
                    have hg8' := grown_al wr hg8 rfl rfl rfl rfl
                    have HN := Box.mk (PC.out wa v8' (ring ps s) _ rfl HEL.out ho8 hg8' (fun b e h => h.1.2 e.symm))
                    have HN2 := Box.mk (HN.out.weak (rdSl rdStr) (ok' := fun b => w8.heap.size ≤ b ∧ some b ≠ v8'.ownBlock) (fun b _ h => ⟨h.1.1, fun e => by
                      rcases hat8 with e2 | e2
                      · exact h.1.2 (e.trans e2)
                      · rw [e2] at e; injection e with e; have h3 := h.2; simp at e; omega⟩))
                    have HGa := Box.mk (show w8.grownBy wa (some bd) from ⟨hg8'.os.trans HG8.out.os, hg8'.tape.trans HG8.out.tape, hg8'.output.trans HG8.out.output, Nat.le_trans HG8.out.size hg8'.size, fun i hi hne => by
                      rw [hg8'.block i (Nat.lt_of_lt_of_le hi HG8.out.size) (fun e => by have := (HOW.out.lt i e.symm).1; omega), HG8.out.block i hi hne]⟩)
                    have HMa := Box.mk (HE.out.kept hg8' (fun e => by have := (HOW.out.lt _ e.symm).1; have := GS.out; omega))
                    go_roundw
                    case rel => exact ⟨k + 1, D ++ ring ps s, by omega, by go_num, HMa, HDI', HGa, by rw [HRG.out]; exact HN2⟩
                    case measure => simp [intOf] <;> omega
                  · rw [decide_eq_false hcl]
                    have HRG : Box (rgs ps (k + 1) = rgs ps k) := ⟨by rw [HRS.out, rgAt, if_neg HANY.out, if_neg (by rw [HLRR.out, HCL.out]; rintro (h | h); exact H1.out h; exact hcl h), List.append_nil]⟩
                    clear hcl
                    go_wp2_with fail
                    go_roundw
                    case rel => exact ⟨k + 1, D ++ ring ps s, by omega, by go_num, HE, HDI', HG8, by rw [HRG.out]; exact ⟨HR8.out.weak (rdSl rdStr) (fun b _ h => h.1)⟩⟩
                    case measure => simp [intOf] <;> omega
        · obtain rfl : k = nn := by omega
          obtain ⟨A', c', e', hs⟩ := HR.out.slr (rdSl rdStr) (by have := rgs_len ps k; rw [LIM_eq]; omega)
          have HSE := Box.mk hs
          subst e'
          clear hs HR
          have HBE := Box.mk (below_tr HB1.out HB1.out.size HW1.out)
          go_wp2_with fail
          go_ret2
          rw [HO.out]
          exact ⟨_, _, rfl, HSE.out, HBE.out⟩
    · have hM2 := HM.out.kept hg2 ⟨by omega, by omega⟩
      have HB2 := Box.mk (HB.out.grown hg2 HB.out.size (fun q hq => by injection hq with hq; omega))
      have HS2 : Box (w1.heap.size + 2 ≤ w2.heap.size) := ⟨by have := hg2.size; have := HS.out; omega⟩
      have HR2 := Box.mk hR2
      have HM2 := Box.mk hM2
      have hxk : x ∈ kvs.map (·.1) := HPM.out.subset (by simp)
      have hxp : x ∉ pre := fun hx => by
        have hnd : (pre ++ (l1 ++ (x, v) :: l2).map (·.1)).Nodup := HPM.out.nodup_iff.2 (by rw [HKN.out]; exact HND.out)
        rw [List.nodup_append] at hnd
        exact hnd.2.2 x hx x (by simp) rfl
      have HXP := Box.mk hxp
      rw [HKN.out] at hxk
      have C := Box.mk (fun W (hW : Below w2.heap.size w2 W) => c_reach ps bp x W (HMP.out.below (below_tr HB2.out HB2.out.size hW)) HT.out HPC.out (HFN.out x hxk))
      clear hM2 hR2 hg2 hs2 hxk hxp
      go_wp2_with fail
      refine (C.out w2 (Below.refl _ _)).mono ?_
      rintro e w4 ⟨b4, S, rfl, hS, hF, hlo, hb4⟩
      obtain ⟨w5, hup, hM5, hg5, hs5⟩ := (HM2.out.below hb4).add HXP.out (bx := b4) (by have := HS2.out; omega) hS hF
      have HM5 := Box.mk hM5
      have HBP' := HBP.out
      have HR5 := Box.mk ((HR2.out.keep (below_gb hb4 none) (by simp) (by simp)).keep hg5 (fun e => by injection e with e; omega) (fun e => by injection e with e; omega))
      have HB5 := Box.mk ((below_tr HB2.out HB2.out.size hb4).grown hg5 (below_tr HB2.out HB2.out.size hb4).size (fun q hq => by injection hq with hq; omega))
      have HS5 : Box (w1.heap.size + 2 ≤ w5.heap.size) := ⟨by have := hb4.size; have := HS2.out; omega⟩
      have HPM5 : Box (((pre ++ [x]) ++ (l1 ++ l2).map (·.1)).Perm (kvs.map (·.1))) := ⟨by
        refine List.Perm.trans ?_ HPM.out
        simp only [List.map_append, List.map_cons, List.append_assoc, List.singleton_append]
        exact List.Perm.append_left _ (List.perm_middle).symm⟩
      clear hS hF hlo hb4 hM5 hg5 hs5 HBP' C hr hr'
      go_wp2_with fail
      go_roundg (l1 ++ l2).length
      case rel => exact ⟨pre ++ [x], l1 ++ l2, rfl, HPM5, HR5, HM5, HB5, HS5⟩
      case measure => simp
end Go.Proofs.Ytchhjldopecliaa
namespace Go.Proofs.Ytchhjldopecliaa
open Go.RowKit

/-- One's own block of cells. -/
def CellsB (w : World) (r : Nat) (vs : List Value) (t : TypeId) : Prop := w.heap[r]? = some (.cells vs.toArray t (0, 0))
section
variable {w w' : World} {r : Nat} {vs : List Value} {t : TypeId}
theorem CellsB.cell (h : CellsB w r vs t) {j : Nat} {v : Value} (hv : vs[j]? = some v) : w.cell? ⟨r, j, none⟩ = some v := by
  unfold CellsB at h
  simp [World.cell?, h, hv]
theorem CellsB.frozen (h : CellsB w r vs t) (j : Nat) : w.frozen? ⟨r, j, none⟩ = false := by
  unfold CellsB at h
  simp [World.frozen?, h]
theorem CellsB.lt (h : CellsB w r vs t) : r < w.heap.size := (Array.getElem?_eq_some_iff.1 h).1
theorem CellsB.kept (h : CellsB w r vs t) {row : Option Nat} (hg : w.grownBy w' row) (hne : some r ≠ row) : CellsB w' r vs t := (hg.block r h.lt hne).trans h
theorem CellsB.set (h : CellsB w r vs t) (j : Nat) (v : Value) : CellsB (w.setCell ⟨r, j, none⟩ v) r (vs.set j v) t ∧ w.grownBy (w.setCell ⟨r, j, none⟩ v) (some r) := by
  refine ⟨?_, st_cell w r j v⟩
  unfold CellsB at *
  simp only [World.setCell, Array.getElem?_modify, if_true, h, Option.map_some]
  congr 2
  simp
end
theorem CellsB.made (w : World) (n : Nat) (v : Value) (t : TypeId) : CellsB (w.alloc (.cells (Array.replicate n v) t)) w.heap.size (List.replicate n v) t := by
  unfold CellsB
  rw [heap_alloc_new, List.toArray_replicate]
theorem make98 (n : Nat) (hn : n ≤ 1000) (W : World) : (Instr.makeSlice 98 (.int .i64 (n : Int)) (.int .i64 (n : Int))).run Try.prog W = .ok (.slice (some ⟨W.heap.size, 0, none⟩) n n) (W.alloc (.cells (Array.replicate n (Value.slice none 0 0)) 89)) := by
  have := run_make_row' (P := Try.prog) 98 89 (.slice none 0 0) 24 Try.underlying98 (by kernel_rfl) rfl .i64 .i64 n (by omega) (by omega) W
  have e : madeCells #[Value.slice none 0 0] n = Array.replicate n (Value.slice none 0 0) := by
    apply Array.toList_inj.1
    rw [toList_madeCells_one]
    simp
  rw [this, e]
theorem make23 (n : Nat) (hn : n ≤ 1000) (W : World) : (Instr.makeSlice 23 (.int .i64 (n : Int)) (.int .i64 (n : Int))).run Try.prog W = .ok (.slice (some ⟨W.heap.size, 0, none⟩) n n) (W.alloc (.cells (Array.replicate n (Value.string ByteArray.empty)) 9)) := by
  have := run_make_row' (P := Try.prog) 23 9 (.string ByteArray.empty) 16 Try.underlying23 (by kernel_rfl) rfl .i64 .i64 n (by omega) (by omega) W
  have e : madeCells #[Value.string ByteArray.empty] n = Array.replicate n (Value.string ByteArray.empty) := by
    apply Array.toList_inj.1
    rw [toList_madeCells_one]
    simp
  rw [this, e]
theorem setK_same {κ : Type} [DecidableEq κ] {x : κ} {v : Value} : ∀ {kvs : List (κ × Value)}, getK x kvs = some v → setK x v kvs = kvs
  | [], h => by cases h
  | (k, u) :: r, h => by
    rw [getK_cons] at h
    unfold setK
    by_cases e : x = k
    · rw [if_pos e] at h
      injection h with h
      subst h e
      simp
    · rw [if_neg e] at h
      simp [e, setK_same h]
theorem MapS.put {w : World} {b : Nat} {l : List Str} (h : MapS w b l) (x : Str) :
    ∃ w' l', (Instr.mapUpdate 82 (.map (some b)) (.string x) (.bool true)).run Try.prog w = .ok () w' ∧ MapS w' b l' ∧ (∀ t, t ∈ l' ↔ t ∈ l ∨ t = x) ∧ w.grownBy w' (some b) ∧ w'.heap.size = w.heap.size := by
  by_cases hx : x ∈ l
  · obtain ⟨w', h1, h2, h3, h4⟩ := MapK.update (P := Try.prog) h keyS Try.underlying82 x (.bool true)
    rw [setK_same (by rw [getK_set, if_pos hx])] at h2
    exact ⟨w', l, h1, h2, fun t => ⟨.inl, fun h => h.elim id (fun e => e ▸ hx)⟩, h3, h4⟩
  · obtain ⟨w', h1, h2, h3, h4⟩ := h.add x hx
    exact ⟨w', _, h1, h2, fun t => by simp, h3, h4⟩
end Go.Proofs.Ytchhjldopecliaa
namespace Go.Proofs.Ytchhjldopecliaa
open Go.RowKit

/-- The table of what each procedure reaches, filled for some. -/
def TabI (ps : List Pc) (w : World) (bt np k : Nat) : Prop := ∃ vs : List Value, CellsB w bt vs 89 ∧ vs.length = np ∧
  ∀ j, j < k → ∃ bo p, vs[j]? = some (.slice (some ⟨bo, 0, none⟩) np np) ∧ ps[j]? = some p ∧ BolB w bo (ps.map (fun q => rchB ps p.nm q.nm)) ∧ bt < bo
theorem TabI.below {ps : List Pc} {w w' : World} {bt np k : Nat} (h : TabI ps w bt np k) (hb : Below w.heap.size w w') : TabI ps w' bt np k := by
  obtain ⟨vs, h1, h2, h3⟩ := h
  refine ⟨vs, h1.kept (below_gb hb none) (by simp), h2, fun j hj => ?_⟩
  obtain ⟨bo, p, a, b, c, d⟩ := h3 j hj
  exact ⟨bo, p, a, b, (hb.block bo c.lt).trans c, d⟩
theorem TabI.cells {ps : List Pc} {w : World} {bt np i j : Nat} (h : TabI ps w bt np np) (hi : i < np) (hj : j < np) (hn : np = ps.length) {p q : Pc} (hp : ps[i]? = some p) (hq : ps[j]? = some q) :
    ∃ bo, w.cell? ⟨bt, i, none⟩ = some (.slice (some ⟨bo, 0, none⟩) np np) ∧ w.cell? ⟨bo, j, none⟩ = some (.bool (rchB ps p.nm q.nm)) := by
  obtain ⟨vs, h1, h2, h3⟩ := h
  obtain ⟨bo, p', a, b, c, d⟩ := h3 i hi
  rw [hp] at b
  injection b with b
  subst b
  exact ⟨bo, h1.cell a, c.cell (by rw [List.getElem?_map, hq]; rfl)⟩

set_option maxRecDepth 100000 in
set_option maxHeartbeats 4000000 in
theorem r_Rings (A : Option Addr) (n c : Nat) (ms : List Md) (w : World) (h : SlR w 5 RMd A n c ms) :
    Calls Try.prog 38 #[.slice A n c] w fun e w' => ∃ A' c', e = .returned (.tuple #[.slice A' (rng ms).1.length c', .int .i64 (rng ms).2]) ∧ SlR w' 1 (RSl 1 RStr) A' (rng ms).1.length c' (rng ms).1 ∧ Below w.heap.size w w' := by
  have hlim := h.lim
  have H := Box.mk h
  clear h
  go_enter Try.func38, Try.ntmps38
  have hmm := @run_makeMap Try.prog
  go_wp2_with fail
  refine (r_whole A n c ms w H.out).mono ?_
  rintro e w1 ⟨rfl, hb1⟩
  have HB1 := Box.mk hb1
  clear hb1
  by_cases h0 : opn ms = 0
  case neg =>
    have HO : Box (rng ms = ([], opn ms)) := ⟨by simp [rng, h0]⟩
    have h0' : (opn ms != 0) = true := by simpa using h0
    generalize opn ms = V at *
    go_wp2_with fail
    go_ret2
    rw [HO.out]
    exact ⟨_, _, rfl, slr_nil _ _ _ _ _, HB1.out⟩
  case pos =>
  have hg := opn_good h0
  have HO : Box (rng ms = (rgs (prs ms) (nmS (prs ms)).length, 0)) := ⟨by simp [rng, h0]⟩
  have CA := Box.mk (r_all A n c ms w1 (H.out.below mono_md HB1.out) hg)
  have HND := Box.mk hg.nms
  have HT := Box.mk (opn_all h0)
  have HPC : Box (∀ p ∈ prs ms, p.cl.length ≤ 100) := ⟨fun p hp => hg.pcalls hp⟩
  have hpl := hg.plen
  have HSZ := Box.mk (prs_sizes H.out)
  have hnl := nmS_length hg
  obtain ⟨np, hnp⟩ : ∃ np, np = (prs ms).length := ⟨_, rfl⟩
  rw [hnl] at HO
  rw [← hnp] at HO CA hpl
  have HNN : Box (np = (nmS (prs ms)).length) := ⟨by rw [hnl]; exact hnp⟩
  have HNP := Box.mk hnp
  rw [h0]
  clear hg hnl hnp h0
  generalize prs ms = ps at *
  go_wp2_with fail
  refine CA.out.mono ?_
  rintro e w2 ⟨B, cb, rfl, hp, hb2⟩
  have HP := Box.mk hp
  have HB2 := Box.mk (below_tr HB1.out HB1.out.size hb2)
  clear hp hb2 CA
  have hm98 := make98 np (by omega)
  have HT0 : Box (TabI ps (w2.alloc (.cells (Array.replicate np (Value.slice none 0 0)) 89)) w2.heap.size np 0) := ⟨⟨_, CellsB.made w2 np _ 89, by simp, fun j hj => by omega⟩⟩
  have HBT := Box.mk (bel_alloc w2 (.cells (Array.replicate np (Value.slice none 0 0)) 89))
  go_wp2_with fail
  clear hm98
  generalize w2.alloc (.cells (Array.replicate np (Value.slice none 0 0)) 89) = W3 at *
  go_loopw [7] (fun i wr => ∃ k : Nat, k ≤ np ∧ i = .int .i64 k ∧ Box (TabI ps wr w2.heap.size np k) ∧ Box (Below w2.heap.size w2 wr)) (fun i _ => np - (intOf i).toNat)
  case atStart => exact ⟨0, Nat.zero_le _, rfl, HT0, HBT⟩
  case round =>
    clear HT0 HBT
    obtain ⟨k, hk, rfl, HTB, HB⟩ := hrel
    by_cases hkl : k < np
    · obtain ⟨p0, hp0⟩ : ∃ p0, ps[k]? = some p0 := ⟨_, List.getElem?_eq_getElem (by rw [← HNP.out]; exact hkl)⟩
      have HP0 := Box.mk hp0
      have C := Box.mk (r_reach B np cb ps p0.nm wr (HP.out.below mono_pc HB.out) HND.out hpl HT.out HPC.out hp0 rfl)
      clear hp0
      go_wp2_with fail
      refine C.out.mono ?_
      rintro e w4 ⟨bo, rfl, hbo, hbl, hb4⟩
      obtain ⟨vs, h1, h2, h3⟩ := HTB.out.below hb4
      obtain ⟨v0, hv0⟩ : ∃ v0, vs[k]? = some v0 := ⟨_, List.getElem?_eq_getElem (by omega)⟩
      have hc0 := h1.cell hv0
      have hf0 := h1.frozen k
      obtain ⟨h1', hg'⟩ := h1.set k (.slice (some ⟨bo, 0, none⟩) np np)
      have hlt := HTB.out
      have HTN : Box (TabI ps (w4.setCell ⟨w2.heap.size, k, none⟩ (.slice (some ⟨bo, 0, none⟩) np np)) w2.heap.size np (k + 1)) := ⟨by
        have hbt : w2.heap.size < bo := by
          obtain ⟨_, g1, _⟩ := HTB.out
          have := g1.lt
          omega
        refine ⟨_, h1', by simp [h2], fun j hj => ?_⟩
        by_cases hjk : j = k
        · subst hjk
          exact ⟨bo, p0, List.getElem?_set_self (by omega), HP0.out, (hg'.block bo hbo.lt (fun e => by injection e with e; omega)).trans hbo, hbt⟩
        · obtain ⟨b1, p1, a, b, c, d⟩ := h3 j (by omega)
          exact ⟨b1, p1, by rw [List.getElem?_set_ne (by omega)]; exact a, b, (hg'.block b1 c.lt (fun e => by injection e with e; omega)).trans c, d⟩⟩
      have HBN := Box.mk ((below_tr HB.out HB.out.size hb4).grown hg' (below_tr HB.out HB.out.size hb4).size (fun q hq => by injection hq with hq; omega))
      clear hbo hbl hb4 h1 h2 h3 hv0 h1' hg' hlt
      go_wp2_with fail
      go_roundw
      case rel => exact ⟨k + 1, by omega, by go_num, HTN, HBN⟩
      case measure => simp [intOf] <;> omega
    · obtain rfl : k = np := by omega
      have hm23 := make23 k (by omega)
      have HC0 := Box.mk (CellsB.made wr k (.string ByteArray.empty) 9)
      have HBM := Box.mk (bel_alloc wr (.cells (Array.replicate k (Value.string ByteArray.empty)) 9))
      go_wp2_with fail
      clear hm23
      have HBV : Box (Below w2.heap.size w2 (wr.alloc (.cells (Array.replicate k (Value.string ByteArray.empty)) 9))) := ⟨bel_alloc2 HB.out _⟩
      have HTV := Box.mk (HTB.out.below HBM.out)
      have HBN : Box (w2.heap.size < wr.heap.size) := ⟨by obtain ⟨_, g1, _⟩ := HTB.out; exact g1.lt⟩
      have HTB0 := HTB
      have HBM0 := HBM
      clear HTB HB HBM HTV
      generalize wr.alloc (.cells (Array.replicate k (Value.string ByteArray.empty)) 9) = W4 at *
      generalize hbn : wr.heap.size = bn at *
      have HBN2 := Box.mk hbn
      clear hbn
      go_loopw [10] (fun i wx => ∃ (j : Nat) (vs : List Value), j ≤ k ∧ i = .int .i64 j ∧ Box (CellsB wx bn vs 9) ∧ Box (vs.length = k ∧ ∀ q p, q < j → ps[q]? = some p → vs[q]? = some (.string p.nm)) ∧ Box (W4.grownBy wx (some bn))) (fun i _ => k - (intOf i).toNat)
      case atStart => exact ⟨0, _, Nat.zero_le _, rfl, HC0, ⟨by simp, fun q p hq => by omega⟩, ⟨World.grownBy.refl _ _⟩⟩
      case round =>
        clear HC0
        obtain ⟨j, vs, hj, rfl, HC, HV, HG⟩ := hrel
        have HBx := Box.mk (HBV.out.grown HG.out HBV.out.size (fun q hq => by injection hq with hq; have := HBN.out; omega))
        by_cases hjl : j < k
        · obtain ⟨b, off, p, A1, n1, c1, rfl, hb, hx, hps, hq, h0, h1, h2, h3⟩ := HP.out.pc_at j hjl
          replace h0 := cellk HBx.out hb h0
          have HX := Box.mk hx
          obtain ⟨v0, hv0⟩ : ∃ v0, vs[j]? = some v0 := ⟨_, List.getElem?_eq_getElem (by rw [HV.out.1]; exact hjl)⟩
          have hc0 := HC.out.cell hv0
          have hf0 := HC.out.frozen j
          obtain ⟨h1', hg'⟩ := HC.out.set j (.string p.nm)
          have HCN := Box.mk h1'
          have HGN := Box.mk (grown_tr HG.out hg')
          have HVN : Box ((vs.set j (.string p.nm)).length = k ∧ ∀ q p', q < j + 1 → ps[q]? = some p' → (vs.set j (.string p.nm))[q]? = some (.string p'.nm)) := ⟨by rw [List.length_set]; exact HV.out.1, fun q p' hq hp' => by
            by_cases hqj : q = j
            · subst hqj
              rw [HX.out] at hp'
              injection hp' with hp'
              subst hp'
              exact List.getElem?_set_self (by rw [HV.out.1]; exact hjl)
            · rw [List.getElem?_set_ne (by omega)]
              exact HV.out.2 q p' (by omega) hp'⟩
          clear h1' hg' hx hps hq h1 h2 h3 hv0
          go_wp2_with fail
          go_roundw
          case rel => exact ⟨j + 1, _, by omega, by go_num, HCN, HVN, HGN⟩
          case measure => simp [intOf] <;> omega
        · obtain rfl : j = k := by omega
          have HSN : Box (SlR wr 1 RStr (some ⟨bn, 0, none⟩) j j (ps.map (·.nm))) := ⟨⟨by rw [List.length_map]; exact HNP.out.symm, Nat.le_refl _, by rw [LIM_eq]; omega, fun _ => ⟨bn, 0, rfl, HC.out.lt, fun q x hx => by
            rw [List.getElem?_map] at hx
            cases hp : ps[q]? with
            | none => rw [hp] at hx; cases hx
            | some p =>
              rw [hp] at hx
              obtain rfl : p.nm = x := by simpa using hx
              refine ⟨[.string p.nm], rfl, ⟨rfl, HSZ.out _ (List.mem_map.2 ⟨p, List.mem_iff_getElem?.2 ⟨q, hp⟩, rfl⟩)⟩, fun t u hu => ?_⟩
              have hql : q < j := by rw [HNP.out]; exact (List.getElem?_eq_some_iff.1 hp).1
              match t, hu with
              | 0, hu =>
                have hu : Value.string p.nm = u := by simpa using hu
                subst hu
                simpa using HC.out.cell (HV.out.2 q p hql hp)
              | t + 1, hu => simp at hu⟩⟩⟩
          have HTV2 : Box (TabI ps wr w2.heap.size j j) := ⟨HTB0.out.below (by
            rw [HBN2.out]
            exact HBM0.out.grown HG.out (by have := HBM0.out.size; have := HBN2.out; omega) (fun q hq => by injection hq with hq; omega))⟩
          clear HC HV HG HBV HTB0 HBM0 HBN2
          go_wp2_with fail
          refine (r_set (some ⟨bn, 0, none⟩) j j (ps.map (·.nm)) wr HSN.out HSZ.out (by omega)).mono ?_
          rintro e w5 ⟨A9, c9, rfl, hs9, hb5⟩
          have HT5 := Box.mk (HTV2.out.below hb5)
          have HB5 := Box.mk (below_tr HBx.out HBx.out.size hb5)
          have HS5 := Box.mk hs9
          clear hs9 hb5 HTV2 HSN HBx
          rw [show (setS (ps.map (·.nm))).length = j from HNN.out.symm] at HS5 ⊢
          have HS0 := Box.mk (MapS_made w5)
          have HBM := Box.mk (bel_alloc w5 (.map #[] 0))
          have HT6 := Box.mk (HT5.out.below HBM.out)
          have HS6 := Box.mk (HS5.out.below mono_str HBM.out)
          have HB6 := Box.mk (below_tr HB5.out HB5.out.size HBM.out)
          have HSM : Box ((w5.alloc (.map #[] 0)).heap.size = w5.heap.size + 1) := ⟨by simp⟩
          go_wp2_with fail
          go_loopw [8, 12, 13, 14, 15, 16, 17, 18, 19] (fun v8 i _ _ _ _ _ _ _ wx => ∃ (k : Nat) (D : List Str), k ≤ j ∧ i = .int .i64 k ∧ Box (MapS wx w5.heap.size D) ∧ Box (∀ t, t ∈ D ↔ t ∈ nmS ps ∧ ((nmS ps).take k).any (mtl ps t) = true) ∧ Box (Below w5.heap.size w5 wx) ∧ Box (OwnO (fun b => w5.heap.size < b ∧ some b ≠ v8.ownBlock) wx (w5.heap.size + 1) 23 1 (RSlO 1 RStrO) v8 (rgs ps k))) (fun _ i _ _ _ _ _ _ _ _ => j - (intOf i).toNat)
          case atStart => exact ⟨0, [], Nat.zero_le _, rfl, HS0, ⟨by simp⟩, HBM, ⟨OwnO.nil⟩⟩
          case round =>
            clear HS0 HBM HT6 HS6 HB6
            obtain ⟨k, D, hk, rfl, HD, HDI, HB, HR⟩ := hrel
            have HTx := Box.mk (HT5.out.below HB.out)
            have HSx := Box.mk (HS5.out.below mono_str HB.out)
            have HPx := Box.mk (HP.out.below mono_pc (below_tr HB5.out HB5.out.size HB.out))
            by_cases hkl : k < j
            · obtain ⟨b5, o5, s, rfl, hb5, hx5, hs5, hc5⟩ := HSx.out.str_at k hkl
              have HX := Box.mk hx5
              have HRS := Box.mk (rgs_succ hx5)
              have HTK : Box (∀ t, ((nmS ps).take (k + 1)).any (mtl ps t) = (((nmS ps).take k).any (mtl ps t) || mtl ps t s)) := ⟨fun t => by rw [List.take_add_one, show (nmS ps)[k]? = some s from hx5]; simp⟩
              have HSN : Box (s ∈ nmS ps) := ⟨List.mem_iff_getElem?.2 ⟨k, hx5⟩⟩
              clear hx5 hs5 hb5
              have CF := Box.mk (r_find s B j cb ps wr HPx.out)
              obtain ⟨is, ps', hfs1, hfs2, hfs3⟩ : ∃ (i : Nat) (p : Pc), fdx s ps = i ∧ ps[i]? = some p ∧ fnd s ps = some p := by
                rcases fdx_spec s ps with ⟨_, h2⟩ | ⟨i, p, h1, h2, h3⟩
                · exact absurd (mem_nmS.1 HSN.out) (fnd_none.1 h2)
                · exact ⟨i, p, h1, h2, h3⟩
              rw [hfs1] at CF
              have HFS := Box.mk (And.intro hfs2 hfs3)
              have hisn : is < j := by rw [HNP.out]; exact (List.getElem?_eq_some_iff.1 hfs2).1
              clear hfs1 hfs2 hfs3
              go_wp2_with fail
              refine CF.out.mono ?_
              rintro e _ ⟨rfl, rfl⟩
              go_wp2_with fail
              clear hc5
              go_loopw [14, 15, 16] (fun v14 i _ wx => ∃ q : Nat, q ≤ j ∧ i = .int .i64 q ∧ Box (wx.ownsRow wr.heap.size 9 1 v14 (((nmS ps).take q).filter (mtl ps s)).length ((((nmS ps).take q).filter (mtl ps s)).map Value.string)) ∧ Box (Below wr.heap.size wr wx)) (fun _ i _ _ => j - (intOf i).toNat)
              case atStart => exact ⟨0, Nat.zero_le _, rfl, ⟨World.ownsRow_nil _ _ _ _⟩, ⟨Below.refl _ _⟩⟩
              case round =>
                obtain ⟨q, hq, rfl, HO14, HBq⟩ := hrel
                by_cases hql : q < j
                · have HSq := Box.mk (HSx.out.below mono_str HBq.out)
                  have HTq := Box.mk (HTx.out.below HBq.out)
                  have HPq := Box.mk (HPx.out.below mono_pc HBq.out)
                  obtain ⟨b6, o6, t, e6, hb6, hx6, hs6, hc6⟩ := HSq.out.str_at q hql
                  injection e6 with e6
                  injection e6 with e61 e62
                  subst e61 e62
                  have CG := Box.mk (r_find t B j cb ps wr HPq.out)
                  obtain ⟨it, pt, hft1, hft2, hft3⟩ : ∃ (i : Nat) (p : Pc), fdx t ps = i ∧ ps[i]? = some p ∧ fnd t ps = some p := by
                    rcases fdx_spec t ps with ⟨_, h2⟩ | ⟨i, p, h1, h2, h3⟩
                    · exact absurd (mem_nmS.1 (List.mem_iff_getElem?.2 ⟨q, hx6⟩)) (fnd_none.1 h2)
                    · exact ⟨i, p, h1, h2, h3⟩
                  rw [hft1] at CG
                  have hitn : it < j := by rw [HNP.out]; exact (List.getElem?_eq_some_iff.1 hft2).1
                  obtain ⟨bo1, hr1, hr2⟩ := HTq.out.cells hisn hitn HNP.out HFS.out.1 hft2
                  obtain ⟨bo2, hr3, hr4⟩ := HTq.out.cells hitn hisn HNP.out hft2 HFS.out.1
                  rw [(fnd_some HFS.out.2).2, (fnd_some hft3).2] at hr2 hr4
                  have HTK2 : Box (((nmS ps).take (q + 1)).filter (mtl ps s) = ((nmS ps).take q).filter (mtl ps s) ++ if (rchB ps s t && rchB ps t s) then [t] else []) := ⟨by
                    rw [List.take_add_one, show (nmS ps)[q]? = some t from hx6, Option.toList_some, List.filter_append]
                    congr 1
                    rw [show (rchB ps s t && rchB ps t s) = mtl ps s t from rfl]
                    cases hq : mtl ps s t <;> simp [hq]⟩
                  have HLA : Box (((((nmS ps).take q).filter (mtl ps s)).length + 1) * 16 ≤ 140737488355328) := ⟨by
                    have := List.length_filter_le (mtl ps s) ((nmS ps).take q)
                    rw [List.length_take] at this
                    omega⟩
                  have HB7 := Box.mk HBq.out.size
                  clear hx6 hs6 hb6 hft1 hft2 hft3
                  go_wp2_with fail
                  refine CG.out.mono ?_
                  rintro e _ ⟨rfl, rfl⟩
                  generalize rchB ps s t = q1 at *
                  generalize rchB ps t s = q2 at *
                  cases q1
                  · rw [if_neg (by simp), List.append_nil] at HTK2
                    go_wp2_with fail
                    go_roundw
                    case rel => exact ⟨q + 1, by omega, by go_num, by rw [HTK2.out]; exact HO14, HBq⟩
                    case measure => simp [intOf] <;> omega
                  · cases q2
                    · rw [if_neg (by simp), List.append_nil] at HTK2
                      go_wp2_with fail
                      go_roundw
                      case rel => exact ⟨q + 1, by omega, by go_num, by rw [HTK2.out]; exact HO14, HBq⟩
                      case measure => simp [intOf] <;> omega
                    · rw [if_pos (by simp)] at HTK2
                      go_wp2_with (at_builtin; refine wpL_app _ _ rfl _ _ 23 9 rfl (.string ByteArray.empty) 1 16 Try.underlying23 info_str rfl (by decide) (by decide) u14 _ _ rfl (HO14.out.alloc _) (some ⟨_, 0, none⟩) 1 1 [.string t] rfl (src_at _ _ _ _ (by simp) rfl) HLA.out (Nat.le_trans HB7.out (bel_alloc _ _).size) ?_; intro v14' wa ho14 hg14 hat14; have HBa := Box.mk ((bel_alloc2 HBq.out _).grown hg14 (Nat.le_trans HB7.out (bel_alloc _ _).size) (fun q hq => (HO14.out.lt q hq).1)); have HOa := Box.mk ho14; clear ho14 hg14 hat14)
                      go_roundw
                      case rel => exact ⟨q + 1, by omega, by go_num, ⟨by rw [HTK2.out, List.length_append, List.map_append]; exact HOa.out⟩, HBa⟩
                      case measure => simp [intOf] <;> omega
                · obtain rfl : q = j := by omega
                  rw [List.take_of_length_le (by rw [← HNN.out]; exact Nat.le_refl _), show (nmS ps).filter (mtl ps s) = ring ps s from rfl] at HO14
                  obtain ⟨b7, o7, p7, A7, n7, c7, e7, hb7, hx7, _hp7, hq7, _h70, _h71, _h72, h73⟩ := (HPx.out.below mono_pc HBq.out).pc_at is hisn
                  rw [HFS.out.1] at hx7
                  injection hx7 with hx7
                  subst hx7
                  subst e7
                  have HQ7 := Box.mk hq7
                  have hl7 := hq7.lim
                  clear _hp7 hq7 _h70 _h71 _h72
                  obtain ⟨B14, m14, d14, e14⟩ := own_slice HO14.out
                  have hm14 := own_vlen HO14.out
                  subst e14
                  have hm14 : m14 = (ring ps s).length := hm14
                  subst hm14
                  go_upto_region 29 with fail
                  have hrl : (ring ps s).length ≤ 100 := by
                    have := List.length_filter_le (mtl ps s) (nmS ps)
                    have := HNN.out
                    unfold ring
                    omega
                  go_wp2_with fail
                  go_loopw [17, 18] (fun v17 i wx => ∃ t : Nat, t ≤ n7 ∧ i = .int .i64 t ∧ v17 = .bool ((ps'.cl.take t).any (fun y => decide (y = s))) ∧ Box (Below wr.heap.size wr wx)) (fun _ i _ => n7 - (intOf i).toNat)
                  case atStart => exact ⟨0, Nat.zero_le _, rfl, vb (by simp), ⟨Below.refl _ _⟩⟩
                  case round =>
                    obtain ⟨t, ht, rfl, rfl, HBt⟩ := hrel
                    replace h73 := cellk HBt.out hb7 h73
                    by_cases htl : t < n7
                    · obtain ⟨b8, o8, y, rfl, hb8, hx8, hs8, hc8⟩ := HQ7.out.str_at t htl
                      replace hc8 := cellk HBt.out hb8 hc8
                      obtain ⟨b9, o9, s', e9, hb9, hx9, hs9, hc9⟩ := ((HSx.out.below mono_str HBq.out).below mono_str HBt.out).str_at k hkl
                      have es : s' = s := by injection (hx9.symm.trans HX.out)
                      rw [es] at hs9 hc9
                      clear es hx9
                      injection e9 with e9
                      injection e9 with e91 e92
                      subst e91 e92
                      have HTK3 : Box ((ps'.cl.take (t + 1)).any (fun y => decide (y = s)) = ((ps'.cl.take t).any (fun y => decide (y = s)) || decide (y = s))) := ⟨by rw [List.take_add_one, hx8]; simp⟩
                      have hte := tleq y s
                      clear hx8 hs8 hb8 hs9 hb9
                      have i0 : (0 : Int) ≤ (t : Int) := by omega
                      have i1 : (t : Int) < (n7 : Int) := by omega
                      have k0 : (0 : Int) ≤ (k : Int) := by omega
                      have k1 : (k : Int) < (q : Int) := by omega
                      have s0 : (0 : Int) ≤ (is : Int) := by omega
                      have s1 : (is : Int) < (q : Int) := by omega
                      generalize hqa : (ps'.cl.take t).any (fun y => decide (y = s)) = qa at *
                      generalize hqb : decide (y = s) = qb at *
                      clear hqa hqb
                      cases qa <;> cases qb
                      all_goals
                        go_upto_region 33 with fail
                        go_quiet (fail)
                        have HBz := Box.mk (show Below _ _ (wr.drewN nq) from ⟨HBt.out.os, HBt.out.tape, HBt.out.output, HBt.out.size, HBt.out.block⟩)
                        go_wp2_with fail
                        go_roundw
                        case rel => exact ⟨t + 1, by omega, by go_num, by rw [HTK3.out]; rfl, HBz⟩
                        case measure => simp [intOf] <;> omega
                    · obtain rfl : t = n7 := by omega
                      rw [List.take_of_length_le (by rw [HQ7.out.len]; exact Nat.le_refl _)]
                      have HSF : Box (ps'.cl.any (fun y => decide (y = s)) = decide (s ∈ clOf ps s)) := ⟨by
                        rw [clOf_fnd HFS.out.2, Bool.eq_iff_iff, List.any_eq_true, decide_eq_true_iff]
                        exact ⟨fun ⟨y, a, b⟩ => by simp at b; exact b ▸ a, fun h => ⟨s, h, by simp⟩⟩⟩
                      rw [HSF.out]
                      go_upto_region 34 with fail
                      have HDt := Box.mk ((HD.out.below HBq.out).below HBt.out)
                      have HOt := Box.mk (own_bel HO14.out HBt.out)
                      have HBx2 := Box.mk (below_tr (below_tr HB.out HB.out.size HBq.out) (below_tr HB.out HB.out.size HBq.out).size HBt.out)
                      have HRt := Box.mk ((HR.out.below (rdSl rdStr) HBq.out).below (rdSl rdStr) HBt.out)
                      have hlk := HDt.out.look s
                      obtain ⟨b9, o9, s', e9, hb9, hx9, hs9, hc9⟩ := ((HSx.out.below mono_str HBq.out).below mono_str HBt.out).str_at k hkl
                      have es : s' = s := by injection (hx9.symm.trans HX.out)
                      rw [es] at hs9 hc9
                      clear es hx9
                      injection e9 with e9
                      injection e9 with e91 e92
                      subst e91 e92
                      have HW5 : Box (w5.heap.size < _ ∧ _) := Box.mk (And.intro HD.out.lt HOt.out.lt)
                      obtain ⟨B12, d12, e12, hs12⟩ := own_strsO (ok := fun b => (w5.heap.size < b ∧ some b ≠ u8.ownBlock) ∧ b < wr.heap.size) HOt.out (fun y hy => HSZ.out y (mem_nmS.1 (List.mem_filter.1 hy).1)) (by rw [LIM_eq]; omega) (fun b hb => by
                        have h1 := HOt.out.lt b hb
                        have h3 := HD.out.lt
                        exact ⟨⟨by omega, fun e => by have := (HR.out.lt b e.symm).2; omega⟩, h1.2⟩)
                      injection e12 with e121 e122 e123
                      subst e121 e123
                      have HEL : Box (RSlO 1 RStrO (fun b => (w5.heap.size < b ∧ some b ≠ u8.ownBlock) ∧ b < wr.heap.size) wr (ring ps s) [.slice B14 (ring ps s).length d14]) := ⟨⟨B14, _, d14, rfl, hs12⟩⟩
                      have HRR : Box (SlO (fun b => w5.heap.size < b ∧ some b ≠ u8.ownBlock) wr 1 (RStrO (fun b => w5.heap.size < b ∧ some b ≠ u8.ownBlock)) B14 (ring ps s).length d14 (ring ps s)) := ⟨hs12.weak rdStr (fun b _ h => h.1)⟩
                      have HR8 := Box.mk (HRt.out.weak (rdSl rdStr) (ok' := fun b => (w5.heap.size < b ∧ some b ≠ u8.ownBlock) ∧ b < wr.heap.size) (fun b hb h => ⟨h, hb⟩))
                      obtain ⟨flat, how, hpc⟩ := HR8.out.opened (rdSl rdStr)
                      have HOW := Box.mk how
                      have PC := Box.mk hpc
                      have HB8w : Box (w5.heap.size + 1 ≤ wr.heap.size) := ⟨HDt.out.lt⟩
                      have HRK : Box (k ≤ 100) := ⟨by omega⟩
                      have HLR : Box ((rgs ps k).length ≤ 100) := ⟨Nat.le_trans (rgs_len ps k) HRK.out⟩
                      have HLC : Box (((rgs ps k).length + 1) * 24 ≤ 140737488355328) := ⟨by have := HLR.out; omega⟩
                      have HRGS : Box (rgs ps (k + 1) = rgs ps k ++ (if s ∈ D then [] else if 1 < (ring ps s).length ∨ s ∈ clOf ps s then [ring ps s] else [])) := ⟨by
                        rw [HRS.out, rgAt]
                        congr 1
                        by_cases hin : s ∈ D
                        · rw [if_pos hin, if_pos ((HDI.out s).1 hin).2]
                        · rw [if_neg hin, if_neg (fun h => hin ((HDI.out s).2 ⟨HSN.out, h⟩))]⟩
                      have HBl : Box (b5 < wr.heap.size) := ⟨hb9⟩
                      generalize hlr : (ring ps s).length = lr at *
                      clear hs12 how hpc hs9 hb9 HR HD HO14 HRt HOt h73 hb7
                      go_cut [149] (fun t149 wx => t149 = .bool (!decide (s ∈ D) && (decide (1 < lr) || decide (s ∈ clOf ps s))) ∧ wx = wr)
                      case first =>
                        generalize decide (s ∈ D) = q1 at *
                        generalize decide (s ∈ clOf ps s) = q2 at *
                        by_cases h1 : 1 < lr
                        · have hd : decide (1 < lr) = true := decide_eq_true h1
                          have hd2 : decide ((1 : Int) < (lr : Int)) = true := decide_eq_true (by omega)
                          clear h1
                          cases q1 <;> cases q2
                          all_goals
                            go_wp2_with fail
                            go_meet
                            first | exact ⟨rfl, rfl⟩ | exact ⟨vb (by simp [hd]), rfl⟩ | exact ⟨vb (by simp), rfl⟩
                        · have hd : decide (1 < lr) = false := decide_eq_false h1
                          have hd2 : decide ((1 : Int) < (lr : Int)) = false := decide_eq_false (by omega)
                          clear h1
                          cases q1 <;> cases q2
                          all_goals
                            go_wp2_with fail
                            go_meet
                            first | exact ⟨rfl, rfl⟩ | exact ⟨vb (by simp [hd]), rfl⟩ | exact ⟨vb (by simp), rfl⟩
                      case rest =>
                        obtain ⟨rfl, rfl⟩ := hcut
                        clear hlk hc9
                        have HLRR := Box.mk hlr
                        clear hlr
                        have HRGS2 : Box (rgs ps (k + 1) = rgs ps k ++ (if (!decide (s ∈ D) && (decide (1 < lr) || decide (s ∈ clOf ps s))) = true then [ring ps s] else [])) := ⟨by
                          rw [HRGS.out]
                          congr 1
                          by_cases h1 : s ∈ D <;> by_cases h2 : 1 < lr <;> by_cases h3 : s ∈ clOf ps s <;> simp [h1, h2, h3]⟩
                        generalize (!decide (s ∈ D) && (decide (1 < lr) || decide (s ∈ clOf ps s))) = C at *
                        go_upto_if 149 with fail
                        go_cut [8] (fun v8 wx => Box (OwnO (fun b => w5.heap.size < b ∧ some b ≠ v8.ownBlock) wx (w5.heap.size + 1) 23 1 (RSlO 1 RStrO) v8 (rgs ps (k + 1))) ∧ Box (MapS wx w5.heap.size D) ∧ Box (Below w5.heap.size w5 wx) ∧ Box (SlO (fun b => w5.heap.size < b) wx 1 (RStrO (fun b => w5.heap.size < b)) B14 lr d14 (ring ps s)))
                        case first =>
                          cases C
                          · have HRG : Box (rgs ps (k + 1) = rgs ps k) := ⟨by rw [HRGS2.out]; simp⟩
                            go_wp2_with fail
                            go_meet
                            exact ⟨⟨by rw [HRG.out]; exact HR8.out.weak (rdSl rdStr) (fun b _ h => h.1)⟩, HDt, HBx2, ⟨HRR.out.weak rdStr (fun b _ h => h.1)⟩⟩
                          · have HRG : Box (rgs ps (k + 1) = rgs ps k ++ [ring ps s]) := ⟨by rw [HRGS2.out]; simp⟩
                            go_wp2_with (at_builtin; refine wpL_app _ (w5.heap.size + 1) rfl _ _ 31 23 rfl (.slice none 0 0) 1 24 Try.underlying31 info_sl rfl (by decide) (by decide) u8 _ flat rfl (HOW.out.alloc _) (some ⟨_, 0, none⟩) 1 1 [.slice B14 lr d14] rfl (src_at _ _ _ _ (by simp) rfl) HLC.out (Nat.le_trans HB8w.out (bel_alloc _ _).size) ?_; intro v8' wa ho8 hg8 hat8)
                            have hg8' := grown_al wc hg8 rfl rfl rfl rfl
                            have HN := Box.mk (PC.out wa v8' (ring ps s) _ rfl HEL.out ho8 hg8' (fun b e h => h.1.2 e.symm))
                            have HN2 := Box.mk (HN.out.weak (rdSl rdStr) (ok' := fun b => w5.heap.size < b ∧ some b ≠ v8'.ownBlock) (fun b _ h => ⟨h.1.1, fun e => by
                              rcases hat8 with e2 | e2
                              · exact h.1.2 (e.trans e2)
                              · rw [e2] at e; injection e with e; have h3 := h.2; simp at e; omega⟩))
                            have HMa := Box.mk (HDt.out.kept hg8' (fun e => by have := (HOW.out.lt _ e.symm).1; omega))
                            have HBa := Box.mk (HBx2.out.grown hg8' HBx2.out.size (fun q hq => by have := (HOW.out.lt q hq).1; omega))
                            have HRa := Box.mk (HRR.out.kept rdStr hg8' (fun b e h => by have := (HOW.out.lt b e).1; have := (HR8.out.lt b e); have := h.2; exact this e.symm))
                            go_meet
                            exact ⟨by rw [HRG.out]; exact HN2, HMa, HBa, ⟨HRa.out.weak rdStr (fun b _ h => h.1)⟩⟩
                        case rest =>
                          obtain ⟨HN, HM, HBn, HRn⟩ := hcut
                          clear HDt HBx2 HRR HR8 HOW PC HEL HRGS HRGS2 HTx HSx HPx HBq HBt HB HQ7 HB8w HLC HLR HRK HBl HRS
                          go_wp2_with fail
                          go_loopw [19] (fun i wx => ∃ (t : Nat) (D' : List Str), t ≤ lr ∧ i = .int .i64 t ∧ Box (MapS wx w5.heap.size D') ∧ Box (∀ y, y ∈ D' ↔ y ∈ D ∨ y ∈ (ring ps s).take t) ∧ Box (wc.grownBy wx (some w5.heap.size))) (fun i _ => lr - (intOf i).toNat)
                          case atStart => exact ⟨0, D, Nat.zero_le _, rfl, HM, ⟨by simp⟩, ⟨World.grownBy.refl _ _⟩⟩
                          case round =>
                            obtain ⟨t, D', ht, rfl, HM', HDI', HG'⟩ := hrel
                            by_cases htl : t < lr
                            · obtain ⟨b, o, y, e, hb, hy, hys, hcy⟩ := ((HRn.out.kept rdStr HG'.out (fun b e h => by injection e with e; omega)).rd rdStr).str_at t htl
                              subst e
                              have HY := Box.mk hy
                              obtain ⟨w', l', hup, hM2, hI2, hg2, hs2⟩ := HM'.out.put y
                              have HM2 := Box.mk hM2
                              have HG2 := Box.mk (grown_tr HG'.out hg2)
                              have HI2 : Box (∀ z, z ∈ l' ↔ z ∈ D ∨ z ∈ (ring ps s).take (t + 1)) := ⟨fun z => by rw [hI2, HDI'.out, List.take_add_one, HY.out]; simp [or_assoc]⟩
                              clear hb hy hys hM2 hI2 hg2 hs2
                              go_wp2_with fail
                              go_roundw
                              case rel => exact ⟨t + 1, l', by omega, by go_num, HM2, HI2, HG2⟩
                              case measure => simp [intOf] <;> omega
                            · obtain rfl : t = lr := by omega
                              have HDN : Box (∀ y, y ∈ D' ↔ y ∈ nmS ps ∧ ((nmS ps).take (k + 1)).any (mtl ps y) = true) := ⟨fun y => by
                                rw [HDI'.out, List.take_of_length_le (by rw [HLRR.out]; exact Nat.le_refl _), HDI.out, HTK.out, Bool.or_eq_true, ring, List.mem_filter]
                                constructor
                                · rintro (⟨a, b⟩ | ⟨a, b⟩)
                                  · exact ⟨a, .inl b⟩
                                  · exact ⟨a, .inr (mtl_symm b)⟩
                                · rintro ⟨a, b | b⟩
                                  · exact .inl ⟨a, b⟩
                                  · exact .inr ⟨a, mtl_symm b⟩⟩
                              have HNF := Box.mk (HN.out.kept (rdSl rdStr) HG'.out (by
                                cases hu : u8.ownBlock with
                                | none => exact .inl rfl
                                | some q => exact .inr (fun e => by injection e with e; have := (HN.out.lt q hu).1; omega)) (fun b e h => by injection e with e; have := h.1; omega))
                              have HBF := Box.mk (HBn.out.grown HG'.out HBn.out.size (fun q hq => by injection hq with hq; omega))
                              go_wp2_with fail
                              go_roundw
                              case rel => exact ⟨k + 1, D', by omega, by go_num, HM', HDN, HBF, HNF⟩
                              case measure => simp [intOf] <;> omega
            · obtain rfl : k = j := by omega
              obtain ⟨A', c', e', hs⟩ := HR.out.slr (rdSl rdStr) (by have := rgs_len ps k; rw [LIM_eq]; omega)
              have HSE := Box.mk hs
              subst e'
              clear hs HR
              have HBE := Box.mk (below_tr HB2.out HB2.out.size (below_tr HB5.out HB5.out.size HB.out))
              go_wp2_with fail
              go_ret2
              rw [HO.out]
              exact ⟨_, _, rfl, HSE.out, HBE.out⟩
end Go.Proofs.Ytchhjldopecliaa
namespace Go.Proofs.Ytchhjldopecliaa
open Go.RowKit

set_option maxRecDepth 100000 in
set_option maxHeartbeats 4000000 in
theorem c_LinkOrders (A : Option Addr) (n c : Nat) (ms : List Md) (w : World) (h : SlR w 5 RMd A n c ms) :
    Calls Try.prog 10 #[.slice A n c] w fun e w' => e = .returned (.bool true) ∧ Below w.heap.size w w' := by
  have hlim := h.lim
  have H := Box.mk h
  clear h
  go_enter Try.func10, Try.ntmps10
  go_wp2_with fail
  refine (c_over A n c ms w H.out).mono ?_
  rintro e w1 ⟨⟨q, rfl, hq⟩, hb1⟩
  have HB1 := Box.mk hb1
  clear hb1 hq
  cases q
  case true =>
    go_wp2_with fail
    refine (c_known w1).mono ?_
    rintro e w2 ⟨rfl, hb2⟩
    have HB2 := Box.mk (below_tr HB1.out HB1.out.size hb2)
    clear hb2
    go_wp2_with fail
    go_ret
    exact ⟨rfl, HB2.out⟩
  case false =>
  have HLAW : Box (opn ms = 0 → (ord ms).2.1 = decide ((rng ms).1.length = 0)) := ⟨ord_rng⟩
  have HE2 : Box ((ord ms).2.2 = opn ms) := ⟨by unfold ord; split <;> rename_i q; · rfl
                                                · simp at q; rw [q]⟩
  have CA := Box.mk (c_Rings A n c ms w1 (H.out.below mono_md HB1.out))
  have CB := Box.mk (fun w (hw : Below w1.heap.size w1 w) => r_Rings A n c ms w (H.out.below mono_md (below_tr HB1.out HB1.out.size hw)))
  have CC := Box.mk (fun w (hw : Below w1.heap.size w1 w) => c_Order A n c ms w (H.out.below mono_md (below_tr HB1.out HB1.out.size hw)))
  have CD := Box.mk (fun w (hw : Below w1.heap.size w1 w) => r_Order A n c ms w (H.out.below mono_md (below_tr HB1.out HB1.out.size hw)))
  rw [HE2.out] at CC CD
  obtain ⟨nr, hnr⟩ : ∃ nr, nr = (rng ms).1.length := ⟨_, rfl⟩
  rw [← hnr] at CA CB HLAW
  have HNR := Box.mk hnr
  clear hnr HE2
  generalize (rng ms).1 = rs at *
  generalize (rng ms).2 = E at *
  obtain ⟨no, hno⟩ : ∃ no, no = (ord ms).1.length := ⟨_, rfl⟩
  rw [← hno] at CC CD
  clear hno
  generalize (ord ms).1 = os at *
  generalize (ord ms).2.1 = Q at *
  generalize opn ms = F at *
  go_wp2_with fail
  refine CA.out.mono ?_
  rintro e w2 ⟨B1, d1, rfl, hs2, hb2⟩
  have HB2 := Box.mk hb2
  have HS2 := Box.mk hs2
  have CB' := Box.mk (CB.out w2 hb2)
  have hl2 := hs2.lim
  clear hb2 hs2 CA CB
  go_wp2_with fail
  refine CB'.out.mono ?_
  rintro e w3 ⟨B2, d2, rfl, hs3, hb3⟩
  have HB3 := Box.mk (below_tr HB2.out HB2.out.size hb3)
  have HS3 := Box.mk hs3
  have HS2' := Box.mk (HS2.out.below (mono_sl mono_str) hb3)
  clear hb3 hs3 CB' HS2
  have hq1 : ((nr : Int) != (nr : Int)) = false := by simp
  have hq2 : ((E : Int) != E) = false := by simp
  go_wp2_with fail
  go_loopw [7] (fun i wx => ∃ k : Nat, k ≤ nr ∧ i = .int .i64 k ∧ Box (Below w3.heap.size w3 wx)) (fun i _ => nr - (intOf i).toNat)
  case atStart => exact ⟨0, Nat.zero_le _, rfl, ⟨Below.refl _ _⟩⟩
  case round =>
    obtain ⟨k, hk, rfl, HB⟩ := hrel
    by_cases hkl : k < nr
    · obtain ⟨b4, o4, x4, A4, n4, c4, rfl, hb4, hx4, hc4, hs4⟩ := HS2'.out.sl_at k hkl
      obtain ⟨b5, o5, x5, A5, n5, c5, rfl, hb5, hx5, hc5, hs5⟩ := HS3.out.sl_at k hkl
      obtain rfl : x4 = x5 := by rw [hx4] at hx5; exact Option.some.inj hx5
      obtain rfl : n4 = n5 := hs4.len.symm.trans hs5.len
      have CS := Box.mk (fun W (hW : Below w3.heap.size w3 W) => c_SameTexts A4 n4 c4 A5 c5 x4 W (hs4.below mono_str hW) (hs5.below mono_str hW))
      replace hc4 := cellk HB.out hb4 hc4
      replace hc5 := cellk HB.out hb5 hc5
      clear hx4 hx5 hs4 hs5
      go_upto_region 10 with fail
      go_region_with (refine (CS.out _ ?_).mono ?_; exact ⟨HB.out.os, HB.out.tape, HB.out.output, HB.out.size, HB.out.block⟩; rintro e w' ⟨rfl, hb'⟩; have HBn : Box (Below w3.heap.size w3 w') := Box.mk ((show Below w3.heap.size w3 wr.drew from ⟨HB.out.os, HB.out.tape, HB.out.output, HB.out.size, HB.out.block⟩).trans (hb'.mono HB.out.size)); clear hb')
      all_goals
        go_wp2_with fail
        go_roundw
        case rel => exact ⟨k + 1, by omega, by go_num, HBn⟩
        case measure => simp [intOf] <;> omega
    · obtain rfl : k = nr := by omega
      have HB4 := Box.mk (below_tr HB3.out HB3.out.size HB.out)
      have CC' := Box.mk (CC.out wr HB4.out)
      clear CC HS2' HS3
      go_wp2_with fail
      refine CC'.out.mono ?_
      rintro e w5 ⟨B6, d6, rfl, hs6, hb6⟩
      have HB6 := Box.mk (below_tr HB4.out HB4.out.size hb6)
      have HS6 := Box.mk hs6
      have CD' := Box.mk (CD.out w5 HB6.out)
      clear hb6 hs6 CC' CD
      go_wp2_with fail
      refine CD'.out.mono ?_
      rintro e w7 ⟨B7, d7, rfl, hs7, hb7⟩
      have HB7 := Box.mk (below_tr HB6.out HB6.out.size hb7)
      have HS7 := Box.mk hs7
      have HS6' := Box.mk (HS6.out.below mono_str hb7)
      clear hb7 hs7 CD' HS6
      go_wp2_with fail
      refine (c_SameTexts B6 no d6 B7 d7 os w7 HS6'.out HS7.out).mono ?_
      rintro e w8 ⟨rfl, hb8⟩
      have HB8 := Box.mk (below_tr HB1.out HB1.out.size (below_tr HB7.out HB7.out.size hb8))
      clear hb8 HS6' HS7
      have hq3 : ((F : Int) != F) = false := by simp
      by_cases hF : F = 0
      · have HL := Box.mk (HLAW.out hF)
        subst hF
        by_cases hn : k = 0
        · subst hn
          obtain rfl : Q = true := by rw [HL.out]; simp
          go_wp2_with fail
          refine (c_known w8).mono ?_
          rintro e w9 ⟨rfl, hb9⟩
          have HB9 := Box.mk (below_tr HB8.out HB8.out.size hb9)
          clear hb9
          go_wp2_with fail
          go_ret
          exact ⟨rfl, HB9.out⟩
        · obtain rfl : Q = false := by rw [HL.out]; simp [hn]
          have hn2 : ((k : Int) == 0) = false := by simpa using hn
          clear hn
          go_wp2_with fail
          refine (c_known w8).mono ?_
          rintro e w9 ⟨rfl, hb9⟩
          have HB9 := Box.mk (below_tr HB8.out HB8.out.size hb9)
          clear hb9
          go_wp2_with fail
          go_ret
          exact ⟨rfl, HB9.out⟩
      · have hF2 : ((F : Int) != 0) = true := by simpa using hF
        clear hF
        cases Q
        all_goals
          go_wp2_with fail
          refine (c_known w8).mono ?_
          rintro e w9 ⟨rfl, hb9⟩
          have HB9 := Box.mk (below_tr HB8.out HB8.out.size hb9)
          clear hb9
          go_wp2_with fail
          go_ret
          exact ⟨rfl, HB9.out⟩
end Go.Proofs.Ytchhjldopecliaa
