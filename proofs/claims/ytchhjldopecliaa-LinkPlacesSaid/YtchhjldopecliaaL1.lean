/-
What isName computes. Condition: the text is one that a machine can hold.
-/
import Derived.Test.YtchhjldopecliaaProg
import Derived.Test.YtchhjldopecliaaB1
namespace Go.Proofs.Ytchhjldopecliaa
open Go.RowKit

/-! ### names -/
def letr (c : Nat) : Bool := (97 ≤ c && c ≤ 122) || (65 ≤ c && c ≤ 90)
/-- The byte c may not stand at the place i. -/
def badc (i c : Nat) : Bool := !letr c && (i == 0 || (c != 95 && (decide (c < 48) || decide (57 < c))))
def nameOk (s : ByteArray) : Bool := ((List.range s.size).all fun i => !badc i (bAt s i)) && (decide (1 ≤ s.size) && decide (s.size ≤ 10))

theorem nameOk_false {s : ByteArray} {k : Nat} (hk : k < s.size) (h : badc k (bAt s k) = true) : nameOk s = false := by
  unfold nameOk
  rw [Bool.and_eq_false_iff]
  left
  rw [List.all_eq_false]
  exact ⟨k, List.mem_range.2 hk, by simp [h]⟩
theorem nameOk_end {s : ByteArray} (h : ∀ j, j < s.size → badc j (bAt s j) = false) : nameOk s = (decide (1 ≤ s.size) && decide (s.size ≤ 10)) := by
  unfold nameOk
  have : ((List.range s.size).all fun i => !badc i (bAt s i)) = true := by
    rw [List.all_eq_true]
    intro i hi
    rw [h i (List.mem_range.1 hi)]
    rfl
  rw [this, Bool.true_and]

set_option maxRecDepth 100000 in
set_option maxHeartbeats 1000000 in
theorem c_isName (s : ByteArray) (w : World) (hs : s.size ≤ 140737488351232) :
    Calls Try.prog 94 #[.string s] w fun e w' => e = .returned (.bool (nameOk s)) ∧ Below w.heap.size w w' := by
  have kb := Lib.run_convert_string_bytes (P := Try.prog) w 9 133 5 s Try.underlying9 Try.underlying133 Try.underlying5
  have hcell : ∀ j, j < s.size → (Lib.bytesWorld w 5 s).cell? ⟨w.heap.size, j, none⟩ = some (.int .u8 (bAt s j)) := fun j hj => Lib.bytesWorld_cell w 5 s j hj
  have hbel : Below w.heap.size w (Lib.bytesWorld w 5 s) := below_bytes (Below.refl _ _) 5 s
  generalize Lib.bytesWorld w 5 s = W1 at hcell hbel kb
  have Hc := Box.mk hcell
  have Hb := Box.mk hbel
  clear hcell hbel
  go_enter Try.func94, Try.ntmps94
  go_wp2
  go_loop [2, 3, 4, 5, 9] (fun _ _ _ _ i => ∃ k : Nat, k ≤ s.size ∧ i = .int .i64 k ∧ Box (∀ j, j < k → badc j (bAt s j) = false)) (fun _ _ _ _ i => s.size - (intOf i).toNat)
  case atStart => exact ⟨0, Nat.zero_le _, rfl, ⟨fun j hj => by omega⟩⟩
  case round =>
    obtain ⟨k, hk, rfl, HK⟩ := hrel
    by_cases hlt : k < s.size
    · have hc := Hc.out k hlt
      have hx := bAt_lt s k
      generalize hv : bAt s k = v at hc hx
      have HV := Box.mk hv
      clear hv
      go_upto_region 4 with fail
      go_cut [3, 4, 5] (fun t3 t4 t5 w' => t3 = .int .i64 k ∧ t4 = .int .u8 v ∧ t5 = .bool (letr v) ∧ w' = W1)
      case first =>
        go_wp2
        all_goals (go_meet; exact ⟨rfl, rfl, vb (by simp [letr]; omega), rfl⟩)
      case rest =>
        obtain ⟨rfl, rfl, rfl, rfl⟩ := hcut
        generalize hL : letr v = L
        have HL := Box.mk hL
        clear hL
        obtain ⟨z, hz⟩ : ∃ z, ((k : Int) == 0) = z := ⟨_, rfl⟩
        have HE : Box (badc k v = (!L && (z || (v != 95 && (decide (v < 48) || decide (57 < v)))))) := ⟨by
          rw [← hz, ← HL.out]; unfold badc
          have : ((k : Int) == 0) = (k == 0) := by rw [Bool.eq_iff_iff]; simp
          rw [this]⟩
        go_upto_region 5 with fail
        go_cut [4, 45] (fun t4 t45 w' => t4 = .int .u8 v ∧ t45 = .bool (badc k v) ∧ w' = wc)
        case first =>
          cases L <;> cases z
          all_goals go_wp2
          all_goals (go_meet; exact ⟨vi (by omega), vb (by rw [HE.out]; simp <;> omega), rfl⟩)
        case rest =>
          obtain ⟨rfl, rfl, rfl⟩ := hcut
          clear hz
          generalize hL : badc k v = L
          have HL := Box.mk hL
          clear hL
          cases L
          · go_wp2
            go_round
            case rel =>
              refine ⟨k + 1, by omega, by go_num, ⟨fun j hj => ?_⟩⟩
              rcases Nat.lt_or_ge j k with h | h
              · exact HK.out j h
              · obtain rfl : j = k := by omega
                rw [HV.out]
                exact HL.out
            case measure => simp [intOf]; omega
          · go_wp2
            go_ret
            refine ⟨rb ?_, Hb.out⟩
            rw [nameOk_false hlt (by rw [HV.out]; exact HL.out)]
    · obtain rfl : k = s.size := by omega
      go_wp2
      all_goals
        go_ret
        refine ⟨rb ?_, Hb.out⟩
        rw [nameOk_end HK.out]
        simp
        omega
end Go.Proofs.Ytchhjldopecliaa
