/-
What the reference's set computes. Condition: a slice of at most 1,000,000 texts.
-/
import Derived.Test.YtchhjldopecliaaF6
namespace Go.Proofs.Ytchhjldopecliaa
open Go.RowKit Go.Sort

/-- sort.Strings, of a row of one's own. -/
theorem c_SortStrings (base : Nat) (v : Value) (xs : List Str) (w : World) (h : w.ownsRow base 9 1 v xs.length (xs.map Value.string)) (hl : xs.length < 4611686018427387904) :
    Calls Try.prog 103 #[v] w fun e w' => e = .returned (.tuple #[]) ∧ w'.ownsRow base 9 1 v (srtS xs).length ((srtS xs).map Value.string) ∧ w.grownBy w' v.ownBlock := by
  rcases h.2 with ⟨rfl, hz⟩ | ⟨g, cap, cur, rfl, hbase, hg, r1, r2, r3, r4⟩
  · obtain rfl : xs = [] := List.eq_nil_of_length_eq_zero hz
    refine (Try.sort_Strings_none none 0 w).mono ?_
    rintro e w' ⟨rfl, rfl⟩
    rw [srtS_nil]
    exact ⟨rfl, h, World.grownBy.refl _ _⟩
  · have e1 : cur.toList.take (xs.map bs).length = (xs.map bs).map encStr := by rw [map_enc_bs, List.length_map]; simpa using r4
    have hH : Holds encStr w g 0 (xs.map bs).toArray := holds_of_block hg e1
    have hgl : g < w.heap.size := (Array.getElem?_eq_some_iff.1 hg).1
    have c := Try.sort_Strings g 0 cap (xs.map bs) w hH hgl (by simpa using hl)
    rw [List.length_map] at c
    refine c.mono ?_
    rintro e w' ⟨rfl, n, os, rfl⟩
    refine ⟨rfl, ?_, grownBy_sorted _⟩
    have := ownsRow_sorted (base := base) (n := n) (os := os) (ss := xs.map bs) (ts := sortB (xs.map bs)) (cap := cap) (by simp [sortB]) hbase hg (by simpa using r1) r2 r3
    rw [← bs_srtS, map_enc_bs, List.length_map, ← srtS_length] at this
    rw [srtS_length] at this ⊢
    rw [bs_srtS] at this
    exact this

/-- What stands behind k rounds. -/
def outK (zs : List By) (k : Nat) : List Str := ((List.range k).filter (Lib.keeps zs.toArray)).map (fun i => ob zs.toArray[i]!)
theorem outK_all (l : List Str) : outK (sortB (l.map bs)) (sortB (l.map bs)).length = setS l := by
  unfold outK setS
  rw [compact_get, List.map_map]
  rfl
theorem outK_succ {zs : List By} {k : Nat} {x : Str} (hx : (zs.map ob)[k]? = some x) : outK zs (k + 1) = outK zs k ++ (if Lib.keeps zs.toArray k then [x] else []) := by
  unfold outK
  rw [List.range_succ, List.filter_append, List.map_append]
  congr 1
  have h1 : zs[k]? = some (bs x) := by
    rw [List.getElem?_map] at hx
    cases h : zs[k]? with
    | none => rw [h] at hx; cases hx
    | some z =>
      rw [h] at hx
      have e : ob z = x := by simpa using hx
      rw [← e, bs_ob]
  have h2 : zs.toArray[k]! = bs x := by simp [h1]
  by_cases hk : Lib.keeps zs.toArray k = true
  · simp [hk, h1, ob_bs]
  · simp [hk]
theorem keeps_zero (zs : List By) : Lib.keeps zs.toArray 0 = true := Lib.keeps_lt_one _ 0 (by omega)
theorem keeps_succ {zs : List By} {q : Nat} {x y : Str} (hx : (zs.map ob)[q + 1]? = some x) (hy : (zs.map ob)[q]? = some y) : Lib.keeps zs.toArray (q + 1) = !decide (x = y) := by
  have key : ∀ (i : Nat) (z : Str), (zs.map ob)[i]? = some z → zs.toArray[i]! = bs z := by
    intro i z hz
    rw [List.getElem?_map] at hz
    cases h : zs[i]? with
    | none => rw [h] at hz; cases hz
    | some u =>
      rw [h] at hz
      have e : ob u = z := by simpa using hz
      simp [h, ← e, bs_ob]
  have h1 := key _ _ hx
  have h2 := key _ _ hy
  by_cases e : x = y
  · subst e
    rw [Lib.keeps_neg (by omega) (by rw [h1, Nat.add_sub_cancel, h2])]
    simp
  · have : zs.toArray[q + 1]! ≠ zs.toArray[q + 1 - 1]! := by
      rw [h1, Nat.add_sub_cancel, h2]
      exact fun h => e (bs_inj h)
    rw [Lib.keeps_pos this]
    simp [e]
theorem outK_length (zs : List By) (k : Nat) : (outK zs k).length ≤ k := by
  unfold outK
  rw [List.length_map]
  exact Nat.le_trans (List.length_filter_le ..) (by simp)
theorem outK_mem {zs : List By} {k : Nat} (hk : k ≤ zs.length) {s : Str} (h : s ∈ outK zs k) : s ∈ zs.map ob := by
  unfold outK at h
  obtain ⟨i, hi, rfl⟩ := List.mem_map.1 h
  have := List.mem_range.1 (List.mem_filter.1 hi).1
  have e : zs.toArray[i]! = zs[i] := by simp [show i < zs.length by omega]
  rw [e]
  exact List.mem_map_of_mem (List.getElem_mem _)

set_option maxRecDepth 100000 in
set_option maxHeartbeats 4000000 in
theorem r_set (A : Option Addr) (n c : Nat) (xs : List Str) (w : World) (h : SlR w 1 RStr A n c xs) (hs : ∀ x ∈ xs, x.size ≤ LIM) (hn : n ≤ 1000000) :
    Calls Try.prog 68 #[.slice A n c] w fun e w' => ∃ A' c', e = .returned (.slice A' (setS xs).length c') ∧ SlR w' 1 RStr A' (setS xs).length c' (setS xs) ∧ Below w.heap.size w w' := by
  have hlim := h.lim
  have H := Box.mk h
  have HS := Box.mk hs
  have hlen := h.len
  have HLE := Box.mk hlen
  clear h hs hlen
  go_enter Try.func68, Try.ntmps68
  go_upto_region 2 with (at_builtin; refine wpL_app _ w.heap.size rfl _ _ 23 9 rfl (.string ByteArray.empty) 1 16 Try.underlying23 info_str rfl (by decide) (by decide) (.slice none 0 0) 0 [] rfl (World.ownsRow_nil _ _ _ _) A n c (xs.map Value.string) rfl (src_strs H.out) (by omega) (Nat.le_refl _) ?_; intro v1 w1 ho1 hg1 hat1)
  rw [List.nil_append, Nat.zero_add, ← HLE.out] at ho1
  have HB1 : Box (Below w.heap.size w w1) := ⟨(Below.refl _ w).grown hg1 (Nat.le_refl _) (fun q hq => by cases hq)⟩
  have HO1 := Box.mk ho1
  clear ho1 hg1 hat1
  go_wp2_with fail
  refine (c_SortStrings w.heap.size v1 xs w1 HO1.out (by rw [HLE.out]; omega)).mono ?_
  rintro e w2 ⟨rfl, ho2, hg2⟩
  have HB2 := Box.mk (below_grown HB1.out (Nat.le_refl _) HB1.out.size HO1.out hg2)
  have hsl := srtS_length xs
  rw [HLE.out] at hsl
  obtain ⟨B, cb, e', hS⟩ := own_strs ho2 (fun x hx => HS.out x (mem_srtS.1 hx)) (by rw [hsl, LIM_eq]; omega)
  rw [hsl] at e' hS
  subst e'
  have HSR := Box.mk hS
  have HSL := Box.mk hsl
  have hwb : Box (w.heap.size ≤ w2.heap.size) := ⟨HB2.out.size⟩
  clear ho2 hg2 hS hsl HO1 HB1
  go_wp2_with fail
  obtain ⟨zs, hzs⟩ : ∃ zs, zs = sortB (xs.map bs) := ⟨_, rfl⟩
  have hzl : zs.length = n := by rw [hzs]; simp [sortB, HLE.out]
  have hall : outK zs n = setS xs := by rw [← hzl, hzs]; exact outK_all xs
  have hsrt : srtS xs = zs.map ob := by rw [hzs]; rfl
  have hmem : ∀ x ∈ zs.map ob, x.size ≤ LIM := fun x hx => HS.out x (mem_srtS.1 (by rw [hsrt]; exact hx))
  rw [hsrt] at HSR
  have HZL := Box.mk hzl
  have HALL := Box.mk hall
  have HMEM := Box.mk hmem
  clear hzs hzl hall hsrt hmem HS HSL
  go_loopw [3, 4] (fun v i wr => ∃ k : Nat, k ≤ n ∧ i = .int .i64 k ∧ Box (Below w2.heap.size w2 wr) ∧ Box (wr.ownsRow w2.heap.size 9 1 v (outK zs k).length ((outK zs k).map Value.string))) (fun _ i _ => n - (intOf i).toNat)
  case atStart => exact ⟨0, Nat.zero_le _, rfl, ⟨Below.refl _ _⟩, ⟨World.ownsRow_nil _ _ _ _⟩⟩
  case round =>
    obtain ⟨k, hk, rfl, HB, HO⟩ := hrel
    by_cases hlt : k < n
    · obtain ⟨b, off, x, rfl, hb, hx, hs, hc⟩ := HSR.out.str_at k hlt
      replace hc := cellk HB.out hb hc
      have HX := Box.mk hx
      have hol : Box ((outK zs k).length ≤ k) := ⟨outK_length zs k⟩
      have hlk := hol.out
      clear hs
      cases k with
      | zero =>
        rw [Nat.add_zero] at hc
        have hkp : Box (outK zs 1 = outK zs 0 ++ [x]) := ⟨by rw [outK_succ hx, keeps_zero]; rfl⟩
        clear hx
        go_upto_region 7 with fail
        go_quiet (fail)
        have HBq : Box (Below w2.heap.size w2 (wr.drewN nq)) := ⟨⟨HB.out.os, HB.out.tape, HB.out.output, HB.out.size, HB.out.block⟩⟩
        have HOq : Box ((wr.drewN nq).ownsRow w2.heap.size 9 1 u3 (outK zs 0).length ((outK zs 0).map Value.string)) := ⟨HO.out⟩
        have hcq : (wr.drewN nq).cell? ⟨b, off, none⟩ = some (.string x) := hc
        generalize wr.drewN nq = wq at *
        go_wp2_with (at_builtin; refine wpL_app _ w2.heap.size rfl _ _ 23 9 rfl (.string ByteArray.empty) 1 16 Try.underlying23 info_str rfl (by decide) (by decide) u3 _ _ rfl (HOq.out.alloc _) (some ⟨_, 0, none⟩) 1 1 [.string x] rfl (src_at _ _ _ _ (by simp) rfl) (by omega) (Nat.le_trans HBq.out.size (bel_alloc _ _).size) ?_; intro v3' wa ho3 hg3' hat3)
        have hg3 := grown_al wq hg3' rfl rfl rfl rfl
        have HBa : Box (Below w2.heap.size w2 wa) := ⟨HBq.out.grown hg3 HBq.out.size (fun q hq => (HOq.out.lt q hq).1)⟩
        have HO3 : Box (wa.ownsRow w2.heap.size 9 1 v3' (outK zs 1).length ((outK zs 1).map Value.string)) := ⟨by rw [hkp.out, List.map_append, List.length_append]; exact ho3⟩
        clear hg3 hg3' ho3 hat3
        go_roundw
        case rel => exact ⟨1, by omega, by go_num, HBa, HO3⟩
        case measure => simp [intOf]; omega
      | succ q =>
        obtain ⟨b', off', y, e', hb', hy, _, hcy⟩ := HSR.out.str_at q (by omega)
        injection e' with e'
        injection e' with e1 e2
        subst e1 e2
        replace hcy := cellk HB.out hb' hcy
        have hkp : Box (outK zs (q + 1 + 1) = outK zs (q + 1) ++ (if !decide (x = y) then [x] else [])) := ⟨by rw [outK_succ hx, keeps_succ hx hy]⟩
        have hq : (ByteArray.toList x == ByteArray.toList y) = decide (x = y) := tleq x y
        generalize decide (x = y) = P at hkp hq
        clear hx hy
        have HQ := Box.mk hq
        have hnz : (((q : Int) + 1) == 0) = false := by simp; omega
        have hw64 : wrap64 ((q : Int) + 1 - 1) = q := by unfold wrap64; omega
        cases P
        case false =>
          go_upto_region 7 with fail
          go_quiet (fail)
          have HBq : Box (Below w2.heap.size w2 (wr.drewN nq)) := ⟨⟨HB.out.os, HB.out.tape, HB.out.output, HB.out.size, HB.out.block⟩⟩
          have HOq : Box ((wr.drewN nq).ownsRow w2.heap.size 9 1 u3 (outK zs (q + 1)).length ((outK zs (q + 1)).map Value.string)) := ⟨HO.out⟩
          have hcq : (wr.drewN nq).cell? ⟨b, off + (q + 1), none⟩ = some (.string x) := hc
          generalize wr.drewN nq = wq at *
          go_wp2_with (at_builtin; refine wpL_app _ w2.heap.size rfl _ _ 23 9 rfl (.string ByteArray.empty) 1 16 Try.underlying23 info_str rfl (by decide) (by decide) u3 _ _ rfl (HOq.out.alloc _) (some ⟨_, 0, none⟩) 1 1 [.string x] rfl (src_at _ _ _ _ (by simp) rfl) (by omega) (Nat.le_trans HBq.out.size (bel_alloc _ _).size) ?_; intro v3' wa ho3 hg3' hat3)
          have hg3 := grown_al wq hg3' rfl rfl rfl rfl
          have HBa : Box (Below w2.heap.size w2 wa) := ⟨HBq.out.grown hg3 HBq.out.size (fun q hq => (HOq.out.lt q hq).1)⟩
          have HO3 : Box (wa.ownsRow w2.heap.size 9 1 v3' (outK zs (q + 1 + 1)).length ((outK zs (q + 1 + 1)).map Value.string)) := ⟨by rw [hkp.out, List.map_append, List.length_append]; exact ho3⟩
          clear hg3 hg3' ho3 hat3
          go_roundw
          case rel => exact ⟨q + 1 + 1, by omega, by go_num, HBa, HO3⟩
          case measure => simp [intOf]; omega
        case true =>
          go_upto_region 7 with fail
          go_quiet (fail)
          have HBq : Box (Below w2.heap.size w2 (wr.drewN nq)) := ⟨⟨HB.out.os, HB.out.tape, HB.out.output, HB.out.size, HB.out.block⟩⟩
          have HOq : Box ((wr.drewN nq).ownsRow w2.heap.size 9 1 u3 (outK zs (q + 1 + 1)).length ((outK zs (q + 1 + 1)).map Value.string)) := ⟨by
            have e : outK zs (q + 1 + 1) = outK zs (q + 1) := by rw [hkp.out]; simp
            rw [e]
            exact HO.out⟩
          generalize wr.drewN nq = wq at *
          go_wp2_with fail
          go_roundw
          case rel => exact ⟨q + 1 + 1, by omega, by go_num, HBq, HOq⟩
          case measure => simp [intOf]; omega
    · obtain rfl : k = n := by omega
      rw [HALL.out] at HO
      obtain ⟨B', c', e', hS⟩ := own_strs HO.out (fun x hx => HMEM.out x (outK_mem (k := k) (by rw [HZL.out]; exact Nat.le_refl _) (by rw [HALL.out]; exact hx))) (by have := outK_length zs k; rw [HALL.out] at this; rw [LIM_eq]; omega)
      have HSS := Box.mk hS
      subst e'
      clear hS HO
      go_wp2_with fail
      go_ret
      exact ⟨_, _, rfl, HSS.out, below_tr HB2.out HB2.out.size HB.out⟩
end Go.Proofs.Ytchhjldopecliaa
