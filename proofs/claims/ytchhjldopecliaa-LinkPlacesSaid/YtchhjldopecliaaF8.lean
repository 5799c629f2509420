/-
What the reference's missing, whole and from compute. Condition: the argument is a slice of modules (for missing: modules that Validate lets in).
-/
import Derived.Test.YtchhjldopecliaaF7
namespace Go.Proofs.Ytchhjldopecliaa
open Go.RowKit

theorem called_take {ps : List Pc} {k : Nat} {p : Pc} (h : ps[k]? = some p) : called (ps.take (k + 1)) = called (ps.take k) ++ p.cl := by
  unfold called
  rw [List.take_add_one, h]
  simp
theorem called_len {ps : List Pc} (hc : ∀ p ∈ ps, p.cl.length ≤ 100) (k : Nat) : (called (ps.take k)).length ≤ k * 100 := by
  have : ∀ l : List Pc, (∀ p ∈ l, p.cl.length ≤ 100) → (called l).length ≤ l.length * 100 := by
    intro l
    induction l with
    | nil => intro _; simp [called]
    | cons x r ih =>
      intro hl
      have h1 := ih (fun m hm => hl m (List.mem_cons_of_mem _ hm))
      have h2 := hl x (List.mem_cons_self ..)
      unfold called at h1 ⊢
      rw [List.flatMap_cons, List.length_append, List.length_cons]
      omega
  have h1 := this (ps.take k) (fun m hm => hc m (List.mem_of_mem_take hm))
  have h2 : (ps.take k).length ≤ k := List.length_take_le ..
  omega
def lack (ps : List Pc) (l : List Str) : List Str := l.filter (fun s => (fnd s ps).isNone)
theorem lack_snoc (ps : List Pc) (l : List Str) (x : Str) : lack ps (l ++ [x]) = lack ps l ++ (if (fnd x ps).isNone then [x] else []) := by
  unfold lack
  rw [List.filter_append]
  congr 1
  cases h : (fnd x ps).isNone <;> simp [List.filter_cons, h]
theorem lack_len (ps : List Pc) (l : List Str) : (lack ps l).length ≤ l.length := List.length_filter_le ..

set_option maxRecDepth 100000 in
set_option maxHeartbeats 4000000 in
theorem r_missing (A : Option Addr) (n c : Nat) (ms : List Md) (w : World) (h : SlR w 5 RMd A n c ms) (hg : Good ms) :
    Calls Try.prog 55 #[.slice A n c] w fun e w' => ∃ A' c', e = .returned (.slice A' (missS (prs ms)).length c') ∧ SlR w' 1 RStr A' (missS (prs ms)).length c' (missS (prs ms)) ∧ Below w.heap.size w w' := by
  have H := Box.mk h
  have HG := Box.mk hg
  have hpl := hg.plen
  have HCL : Box (∀ p ∈ prs ms, p.cl.length ≤ 100) := ⟨fun p hp => hg.pcalls hp⟩
  have C := Box.mk (r_all A n c ms w H.out HG.out)
  clear h hg
  generalize prs ms = ps at *
  go_enter Try.func55, Try.ntmps55
  go_wp2_with fail
  refine C.out.mono ?_
  rintro e w1 ⟨B, cb, rfl, hp, hb1⟩
  have HP := Box.mk hp
  have HB1 := Box.mk hb1
  clear hp hb1
  clear C
  obtain ⟨np, hnp⟩ : ∃ np, np = ps.length := ⟨_, rfl⟩
  rw [← hnp] at HP hpl
  rw [← hnp]
  have HNP := Box.mk hnp
  clear hnp
  go_wp2_with fail
  go_loopw [4, 5, 6] (fun v i _ wr => ∃ k : Nat, k ≤ np ∧ i = .int .i64 k ∧ Box (Below w1.heap.size w1 wr) ∧ Box (wr.ownsRow w1.heap.size 9 1 v (lack ps (called (ps.take k))).length ((lack ps (called (ps.take k))).map Value.string))) (fun _ i _ _ => np - (intOf i).toNat)
  case atStart => exact ⟨0, Nat.zero_le _, rfl, ⟨Below.refl _ _⟩, ⟨World.ownsRow_nil _ _ _ _⟩⟩
  case round =>
    obtain ⟨k, hk, rfl, HB, HO⟩ := hrel
    by_cases hlt : k < np
    · obtain ⟨b, off, p, A1, n1, c1, rfl, hb, hx, hnm, hcl, h0, h1, h2, h3⟩ := HP.out.pc_at k hlt
      have HX := Box.mk hx
      have HC := Box.mk hcl
      have H3 := Box.mk (And.intro hb h3)
      have hl1 := hcl.lim
      have hn1 : n1 ≤ 100 := by rw [← hcl.len]; exact HCL.out p (List.mem_iff_getElem?.2 ⟨k, hx⟩)
      have HT := Box.mk (called_take hx)
      have hck := called_len HCL.out k
      clear hx hcl hb h0 h1 h2 h3
      go_wp2_with fail
      go_loopw [4, 6] (fun v i wx => ∃ j : Nat, j ≤ n1 ∧ i = .int .i64 j ∧ Box (Below w1.heap.size w1 wx) ∧ Box (wx.ownsRow w1.heap.size 9 1 v (lack ps (called (ps.take k) ++ p.cl.take j)).length ((lack ps (called (ps.take k) ++ p.cl.take j)).map Value.string))) (fun _ i _ => n1 - (intOf i).toNat)
      case atStart => exact ⟨0, Nat.zero_le _, rfl, HB, ⟨by simpa using HO.out⟩⟩
      case round =>
        clear HB HO
        obtain ⟨j, hj, rfl, HB, HO⟩ := hrel
        have h3 := cellk HB.out H3.out.1 H3.out.2
        by_cases hjl : j < n1
        · obtain ⟨b5, o5, x, rfl, hb5, hx5, hs5, hc5⟩ := HC.out.str_at j hjl
          replace hc5 := cellk HB.out hb5 hc5
          have htk : Box (called (ps.take k) ++ p.cl.take (j + 1) = (called (ps.take k) ++ p.cl.take j) ++ [x]) := ⟨by rw [List.take_add_one, hx5]; simp⟩
          have hll : (lack ps (called (ps.take k) ++ p.cl.take j)).length ≤ 11000 := by
            have e1 := lack_len ps (called (ps.take k) ++ p.cl.take j)
            have e2 : (p.cl.take j).length ≤ j := List.length_take_le ..
            rw [List.length_append] at e1
            omega
          clear hx5 hs5
          go_wp2_with fail
          refine (r_find x _ np cb ps wr (HP.out.below mono_pc HB.out)).mono ?_
          rintro e w3 ⟨rfl, rfl⟩
          rcases fdx_spec x ps with ⟨hf1, hf2⟩ | ⟨q, p2, hf1, hf2, hf3⟩
          · rw [hf1]
            have hsn : Box (lack ps (called (ps.take k) ++ p.cl.take (j + 1)) = lack ps (called (ps.take k) ++ p.cl.take j) ++ [x]) := ⟨by rw [htk.out, lack_snoc, hf2]; rfl⟩
            clear hf1 hf2
            go_wp2_with (at_builtin; refine wpL_app _ w1.heap.size rfl _ _ 23 9 rfl (.string ByteArray.empty) 1 16 Try.underlying23 info_str rfl (by decide) (by decide) u4 _ _ rfl (HO.out.alloc _) (some ⟨_, 0, none⟩) 1 1 [.string x] rfl (src_at _ _ _ _ (by simp) rfl) (by omega) (Nat.le_trans HB.out.size (bel_alloc _ _).size) ?_; intro v3' wa ho3 hg3' hat3)
            have hg3 := grown_al wr hg3' rfl rfl rfl rfl
            have HBa : Box (Below w1.heap.size w1 wa) := ⟨HB.out.grown hg3 HB.out.size (fun q hq => (HO.out.lt q hq).1)⟩
            have HO3 : Box (wa.ownsRow w1.heap.size 9 1 v3' (lack ps (called (ps.take k) ++ p.cl.take (j + 1))).length ((lack ps (called (ps.take k) ++ p.cl.take (j + 1))).map Value.string)) := ⟨by rw [hsn.out, List.map_append, List.length_append]; exact ho3⟩
            clear hg3 hg3' ho3 hat3
            go_roundw
            case rel => exact ⟨j + 1, by omega, by go_num, HBa, HO3⟩
            case measure => simp [intOf]; omega
          · rw [hf1]
            have hsn : lack ps (called (ps.take k) ++ p.cl.take (j + 1)) = lack ps (called (ps.take k) ++ p.cl.take j) := by rw [htk.out, lack_snoc, hf3]; simp
            rw [← hsn] at HO
            clear hf1 hf2 hf3 hsn hll
            go_wp2_with fail
            go_roundw
            case rel => exact ⟨j + 1, by omega, by go_num, HB, HO⟩
            case measure => simp [intOf]; omega
        · obtain rfl : j = n1 := by omega
          have e : p.cl.take j = p.cl := List.take_of_length_le (by rw [HC.out.len]; exact Nat.le_refl _)
          rw [e, ← HT.out] at HO
          clear e
          go_wp2_with fail
          go_roundw
          case rel => exact ⟨k + 1, by omega, by go_num, HB, HO⟩
          case measure => simp [intOf]; omega
    · obtain rfl : k = np := by omega
      have e : ps.take k = ps := List.take_of_length_le (by rw [← HNP.out]; exact Nat.le_refl _)
      have hck := called_len HCL.out k
      rw [e] at HO hck
      clear e
      have hml : lack ps (called ps) = missL ps := rfl
      rw [hml] at HO
      have hmn : (missL ps).length ≤ 10000 := by have := lack_len ps (called ps); rw [hml] at this; omega
      have hsz : ∀ x ∈ missL ps, x.size ≤ LIM := by
        intro x hx
        obtain ⟨⟨p, hp, hxp⟩, _⟩ := mem_missL.1 hx
        obtain ⟨i, hi⟩ := List.mem_iff_getElem?.1 hp
        have hil := (List.getElem?_eq_some_iff.1 hi).1
        obtain ⟨b, off, p', A1, n1, c1, rfl, hb, hx', hnm, hcl, _⟩ := HP.out.pc_at i (by rw [HNP.out]; exact hil)
        rw [hi] at hx'
        injection hx' with hx'
        subst hx'
        obtain ⟨j, hj⟩ := List.mem_iff_getElem?.1 hxp
        have hjl := (List.getElem?_eq_some_iff.1 hj).1
        rw [hcl.len] at hjl
        obtain ⟨b5, o5, x', rfl, hb5, hx5, hs5, _⟩ := hcl.str_at j hjl
        rw [hj] at hx5
        injection hx5 with hx5
        subst hx5
        exact hs5
      obtain ⟨B', c', e', hS⟩ := own_strs HO.out hsz (by rw [LIM_eq]; omega)
      have HSS := Box.mk hS
      have HSZ := Box.mk hsz
      subst e'
      clear hS hsz HO hml
      go_wp2_with fail
      refine (r_set B' _ c' (missL ps) wr HSS.out HSZ.out (by omega)).mono ?_
      rintro e w4 ⟨A', c'', rfl, hs4, hb4⟩
      have HS4 := Box.mk hs4
      have HB4 := Box.mk (below_tr (below_tr HB1.out HB1.out.size HB.out) (by have := HB1.out.size; have := HB.out.size; omega) hb4)
      clear hs4 hb4
      go_wp2_with fail
      go_ret
      exact ⟨_, _, rfl, HS4.out, HB4.out⟩
end Go.Proofs.Ytchhjldopecliaa
