/-
What open and openFrom compute. Condition: the argument is a slice of modules.
-/
import Derived.Test.YtchhjldopecliaaL9
namespace Go.Proofs.Ytchhjldopecliaa
open Go.RowKit

/-- Modules that Validate lets in. -/
structure Good (ms : List Md) : Prop where
  fits : ∀ m ∈ ms, misfit m = false
  names : (namesOf ms).Nodup
  procs : (procsOf ms).Nodup
  total : sumL ms ≤ 100
  len : ms.length ≤ 32
  right : ∀ m ∈ ms, rightB m = true
  calls : ∀ m ∈ ms, ∀ l ∈ m.cl, l.length ≤ 100
theorem vld_good {ms : List Md} (h : vld ms = 0) : Good ms := by
  unfold vld at h
  split at h
  · cases h
  rename_i h1
  split at h
  · cases h
  rename_i h2
  split at h
  · cases h
  rename_i h3
  split at h
  · cases h
  rename_i h4
  simp only [largeB, longC, Bool.or_eq_true, decide_eq_true_eq, List.any_eq_true, not_or, not_exists, not_and, Nat.not_lt, Bool.not_eq_true, Bool.not_eq_eq_eq_not, Bool.not_true, Bool.not_eq_false] at h1 h2 h3 h4
  refine ⟨fun m hm => h3 m hm, Classical.not_not.1 h4.1, Classical.not_not.1 h4.2, ?_, ?_, fun m hm => h2 m hm, fun m hm l hl => ?_⟩
  · omega
  · omega
  · exact h1.1 m hm l hl
theorem prs_mem {ms : List Md} {p : Pc} (h : p ∈ prs ms) : ∃ m ∈ ms, ∃ i, i < m.pr.length ∧ p = pcOf m i := by
  obtain ⟨m, hm, hp⟩ := List.mem_flatMap.1 h
  obtain ⟨i, hi, rfl⟩ := List.mem_map.1 hp
  exact ⟨m, hm, i, List.mem_range.1 hi, rfl⟩
theorem Good.fit {ms : List Md} (h : Good ms) {m : Md} (hm : m ∈ ms) : m.sz.length = m.pr.length ∧ m.cl.length = m.pr.length := by
  have := h.fits m hm
  unfold misfit at this
  simpa using this
theorem Good.pcalls {ms : List Md} (h : Good ms) {p : Pc} (hp : p ∈ prs ms) : p.cl.length ≤ 100 := by
  obtain ⟨m, hm, i, hi, rfl⟩ := prs_mem hp
  have hl : i < m.cl.length := by rw [(h.fit hm).2]; exact hi
  have : (pcOf m i).cl = m.cl[i] := getD_some (List.getElem?_eq_getElem hl)
  rw [this]
  exact h.calls m hm _ (List.getElem_mem hl)
theorem Good.nms {ms : List Md} (h : Good ms) : ((prs ms).map (·.nm)).Nodup := by rw [prs_nm]; exact h.procs
theorem Good.plen {ms : List Md} (h : Good ms) : (prs ms).length ≤ 100 := by rw [prs_length]; exact h.total

theorem ret2i {v : Value} {a b : Int} (h : a = b) : Ending.returned (.tuple #[v, .int .i64 a]) = .returned (.tuple #[v, .int .i64 b]) := by rw [h]
/-- What open tells. -/
def opn (ms : List Md) : Int := if vld ms ≠ 0 then vld ms else if 0 < (missS (prs ms)).length then 4 else 0
def opf (ms : List Md) (x : Str) : Int := if opn ms ≠ 0 then opn ms else if fnd x (prs ms) = none then 4 else 0

set_option maxHeartbeats 1000000 in
theorem c_open (A : Option Addr) (n c : Nat) (ms : List Md) (w : World) (h : SlR w 5 RMd A n c ms) :
    Calls Try.prog 62 #[.slice A n c] w fun e w' => (∃ v, e = .returned (.tuple #[v, .int .i64 (opn ms)]) ∧ (opn ms = 0 → Good ms ∧ ∃ b, v = .map (some b) ∧ MapP w' b (prs ms) ∧ w.heap.size ≤ b)) ∧ Below w.heap.size w w' := by
  have hlim := h.lim
  have H := Box.mk h
  clear h
  go_enter Try.func62, Try.ntmps62
  go_wp2_with fail
  refine (c_Validate A n c ms w H.out).mono ?_
  rintro e w1 ⟨rfl, hb1⟩
  have HB1 := Box.mk hb1
  clear hb1
  generalize hv : vld ms = V
  by_cases h0 : V = 0
  · subst h0
    have HG := Box.mk (vld_good hv)
    have HV := Box.mk hv
    clear hv
    go_wp2_with fail
    refine (c_procs A n c ms w1 (H.out.below mono_md HB1.out) HG.out.fits HG.out.procs).mono ?_
    rintro e w2 ⟨b, rfl, hm, hbl, hb2⟩
    have HM := Box.mk hm
    have HBL := Box.mk hbl
    have HB2 := Box.mk (below_tr HB1.out HB1.out.size hb2)
    clear hm hbl hb2
    go_wp2_with fail
    refine (c_missing b (prs ms) w2 HM.out HG.out.nms HG.out.plen (fun p hp => HG.out.pcalls hp)).mono ?_
    rintro e w3 ⟨A', c', rfl, hs, hb3⟩
    have HB3 := Box.mk (below_tr HB2.out HB2.out.size hb3)
    have HM3 := Box.mk (HM.out.below hb3)
    have hl := hs.lim
    clear hs hb3
    have HO : Box (opn ms = if 0 < (missS (prs ms)).length then 4 else 0) := ⟨by simp [opn, HV.out]⟩
    generalize (missS (prs ms)).length = q at *
    by_cases hq : 0 < q
    · go_wp2_with fail
      go_ret2
      refine ⟨⟨_, ret2i (by rw [HO.out, if_pos hq]), fun h => ?_⟩, HB3.out⟩
      rw [HO.out, if_pos hq] at h
      cases h
    · go_wp2_with fail
      go_ret2
      exact ⟨⟨_, ret2i (by rw [HO.out, if_neg hq]), fun _ => ⟨HG.out, b, rfl, HM3.out, by have := HBL.out; have := HB1.out.size; omega⟩⟩, HB3.out⟩
  · have HO : Box (opn ms = V) := ⟨by simp [opn, hv, h0]⟩
    have HN := Box.mk h0
    have h0' : ¬ ((V : Int) == 0) = true := by simpa using h0
    clear hv
    go_wp2_with fail
    go_ret2
    exact ⟨⟨_, ret2i (by rw [HO.out]), fun h => absurd (HO.out ▸ h) HN.out⟩, HB1.out⟩

set_option maxHeartbeats 1000000 in
theorem c_openFrom (A : Option Addr) (n c : Nat) (ms : List Md) (x : Str) (w : World) (h : SlR w 5 RMd A n c ms) :
    Calls Try.prog 45 #[.slice A n c, .string x] w fun e w' => (∃ v, e = .returned (.tuple #[v, .int .i64 (opf ms x)]) ∧ (opf ms x = 0 → opn ms = 0 ∧ Good ms ∧ (∃ p, fnd x (prs ms) = some p) ∧ ∃ b, v = .map (some b) ∧ MapP w' b (prs ms) ∧ w.heap.size ≤ b)) ∧ Below w.heap.size w w' := by
  have hlim := h.lim
  have H := Box.mk h
  clear h
  go_enter Try.func45, Try.ntmps45
  go_wp2_with fail
  refine (c_open A n c ms w H.out).mono ?_
  rintro e w1 ⟨⟨v, rfl, hv⟩, hb1⟩
  have HB1 := Box.mk hb1
  clear hb1
  generalize ho : opn ms = V at *
  by_cases h0 : V = 0
  · subst h0
    obtain ⟨hg, b, rfl, ⟨kvs, hk, hpv⟩, hbl⟩ := hv rfl
    have HG := Box.mk hg
    have HM := Box.mk (show MapP w1 b (prs ms) from ⟨kvs, hk, hpv⟩)
    have HBL := Box.mk hbl
    have HV := Box.mk ho
    have HO : Box (opf ms x = if fnd x (prs ms) = none then 4 else 0) := ⟨by simp [opf, ho]⟩
    clear ho hv hg hbl
    generalize hf : fnd x (prs ms) = F at *
    cases F with
    | none =>
      have hlk : (Instr.lookup 57 (.map (some b)) (.string x) true).run Try.prog w1 = .ok (.tuple #[.agg #[.int .i64 0, .slice none 0 0], .bool false]) w1 := (hk.look keyS Try.underlying57 (zero_proc w1) (hpv.get_none hf)).2
      clear hk hpv hf
      go_wp2_with fail
      go_ret2
      refine ⟨⟨_, ret2i (by simp [HO.out]), fun h => ?_⟩, bel_alloc2 HB1.out _⟩
      simp [HO.out] at h
    | some q =>
      obtain ⟨v, hv, A7, n7, c7, rfl, hq⟩ := hpv.get_some hf
      have hlk : (Instr.lookup 57 (.map (some b)) (.string x) true).run Try.prog w1 = .ok (.tuple #[.agg #[.int .i64 q.ov, .slice A7 n7 c7], .bool true]) w1 := (hk.look keyS Try.underlying57 (zero_proc w1) hv).2
      have HF := Box.mk hf
      clear hk hpv hf hv hq
      go_wp2_with fail
      go_ret2
      exact ⟨⟨_, ret2i (by simp [HO.out]), fun h => ⟨HV.out, HG.out, ⟨q, HF.out⟩, b, rfl, HM.out.below (bel_alloc _ _), HBL.out⟩⟩, bel_alloc2 HB1.out _⟩
  · have HO : Box (opf ms x = V) := ⟨by simp [opf, ho, h0]⟩
    have HN := Box.mk h0
    have h0' : ¬ ((V : Int) == 0) = true := by simpa using h0
    clear ho hv
    go_wp2_with fail
    go_ret2
    exact ⟨⟨_, ret2i (by rw [HO.out]), fun h => absurd (HO.out ▸ h) HN.out⟩, HB1.out⟩
end Go.Proofs.Ytchhjldopecliaa
