/-
What the reference's whole and from compute. Condition: the argument is a slice of modules.
-/
import Derived.Test.YtchhjldopecliaaF8
namespace Go.Proofs.Ytchhjldopecliaa
open Go.RowKit

set_option maxHeartbeats 1000000 in
theorem r_whole (A : Option Addr) (n c : Nat) (ms : List Md) (w : World) (h : SlR w 5 RMd A n c ms) :
    Calls Try.prog 63 #[.slice A n c] w fun e w' => e = .returned (.int .i64 (opn ms)) ∧ Below w.heap.size w w' := by
  have H := Box.mk h
  clear h
  go_enter Try.func63, Try.ntmps63
  go_wp2_with fail
  refine (r_Validate A n c ms w H.out).mono ?_
  rintro e w1 ⟨rfl, hb1⟩
  have HB1 := Box.mk hb1
  clear hb1
  generalize hv : vld ms = V
  by_cases h0 : V = 0
  · subst h0
    have HG := Box.mk (vld_good hv)
    have HV := Box.mk hv
    clear hv
    go_wp2_with fail
    refine (r_missing A n c ms w1 (H.out.below mono_md HB1.out) HG.out).mono ?_
    rintro e w2 ⟨A', c', rfl, hs, hb2⟩
    have HB2 := Box.mk (below_tr HB1.out HB1.out.size hb2)
    have hl := hs.lim
    clear hs hb2
    have HO : Box (opn ms = if 0 < (missS (prs ms)).length then 4 else 0) := ⟨by simp [opn, HV.out]⟩
    generalize (missS (prs ms)).length = q at *
    by_cases hq : 0 < q
    · go_wp2_with fail
      go_ret
      exact ⟨ret_int (by rw [HO.out, if_pos hq]), HB2.out⟩
    · go_wp2_with fail
      go_ret
      exact ⟨ret_int (by rw [HO.out, if_neg hq]), HB2.out⟩
  · have HO : Box (opn ms = V) := ⟨by simp [opn, hv, h0]⟩
    have h0' : (V != 0) = true := by simpa using h0
    clear hv
    go_wp2_with fail
    go_ret
    exact ⟨ret_int (by rw [HO.out]), HB1.out⟩

theorem ret3i {v u : Value} {a b : Int} (h : a = b) : Ending.returned (.tuple #[v, u, .int .i64 a]) = .returned (.tuple #[v, u, .int .i64 b]) := by rw [h]

/-- What from hands on when it tells no error. -/
def FromOk (w' : World) (ms : List Md) (x : Str) (v : Value) (k : Int) : Prop :=
  opn ms = 0 ∧ Good ms ∧ ∃ (p : Pc) (A' : Option Addr) (c' : Nat), k = fdx x (prs ms) ∧ fnd x (prs ms) = some p ∧ v = .slice A' (prs ms).length c' ∧ SlR w' 4 RPc A' (prs ms).length c' (prs ms)

set_option maxHeartbeats 1000000 in
theorem r_from (A : Option Addr) (n c : Nat) (ms : List Md) (x : Str) (w : World) (h : SlR w 5 RMd A n c ms) :
    Calls Try.prog 51 #[.slice A n c, .string x] w fun e w' => (∃ v k, e = .returned (.tuple #[v, .int .i64 k, .int .i64 (opf ms x)]) ∧ (opf ms x = 0 → FromOk w' ms x v k)) ∧ Below w.heap.size w w' := by
  have H := Box.mk h
  clear h
  go_enter Try.func51, Try.ntmps51
  go_wp2_with fail
  refine (r_whole A n c ms w H.out).mono ?_
  rintro e w1 ⟨rfl, hb1⟩
  have HB1 := Box.mk hb1
  clear hb1
  generalize ho : opn ms = V
  by_cases h0 : V = 0
  · subst h0
    have HV := Box.mk ho
    have HG : Box (Good ms) := ⟨by
      apply vld_good
      unfold opn at ho
      by_cases hz : vld ms = 0
      · exact hz
      · rw [if_pos hz] at ho; exact ho⟩
    have HO : Box (opf ms x = if fnd x (prs ms) = none then 4 else 0) := ⟨by simp [opf, ho]⟩
    clear ho
    go_wp2_with fail
    refine (r_all A n c ms w1 (H.out.below mono_md HB1.out) HG.out).mono ?_
    rintro e w2 ⟨B, cb, rfl, hp, hb2⟩
    have HP := Box.mk hp
    have HB2 := Box.mk (below_tr HB1.out HB1.out.size hb2)
    have hl := hp.lim
    clear hp hb2
    go_wp2_with fail
    refine (r_find x B _ cb (prs ms) w2 HP.out).mono ?_
    rintro e w3 ⟨rfl, rfl⟩
    rcases fdx_spec x (prs ms) with ⟨hf1, hf2⟩ | ⟨q, p2, hf1, hf2, hf3⟩
    · rw [hf1]
      have HF : Box (opf ms x = 4) := ⟨by rw [HO.out, hf2, if_pos rfl]⟩
      clear hf1 hf2
      go_wp2_with fail
      go_ret3
      exact ⟨⟨_, _, ret3i (by rw [HF.out]), fun h => by rw [HF.out] at h; cases h⟩, HB2.out⟩
    · have HK1 := Box.mk hf1
      rw [hf1]
      have HF : Box (opf ms x = 0) := ⟨by rw [HO.out, hf3, if_neg (by simp)]⟩
      have HK : Box ((prs ms)[q]? = some p2 ∧ fnd x (prs ms) = some p2) := ⟨hf2, hf3⟩
      have hq2 : q < (prs ms).length := (List.getElem?_eq_some_iff.1 hf2).1
      clear hf1 hf2 hf3
      go_wp2_with fail
      go_ret3
      exact ⟨⟨_, _, ret3i (by rw [HF.out]), fun _ => ⟨HV.out, HG.out, p2, B, cb, HK1.out.symm, HK.out.2, rfl, HP.out⟩⟩, HB2.out⟩
  · have HO : Box (opf ms x = V) := ⟨by simp [opf, ho, h0]⟩
    have HN := Box.mk h0
    have h0' : (V != 0) = true := by simpa using h0
    clear ho
    go_wp2_with fail
    go_ret3
    exact ⟨⟨_, _, ret3i (by rw [HO.out]), fun h => absurd (HO.out ▸ h) HN.out⟩, HB1.out⟩
end Go.Proofs.Ytchhjldopecliaa
