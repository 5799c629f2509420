/-
What missing computes. Condition: a map of at most 100 procedures with at most 100 calls each.
-/
import Derived.Test.YtchhjldopecliaaL8
namespace Go.Proofs.Ytchhjldopecliaa
open Go.RowKit

def called (ps : List Pc) : List Str := ps.flatMap (·.cl)
def missL (ps : List Pc) : List Str := (called ps).filter (fun s => (fnd s ps).isNone)
def missS (ps : List Pc) : List Str := setS (missL ps)
theorem mem_missL {ps : List Pc} {s : Str} : s ∈ missL ps ↔ (∃ p ∈ ps, s ∈ p.cl) ∧ fnd s ps = none := by
  simp [missL, called, List.mem_filter, List.mem_flatMap]

/-- What stands in the list of what misses. -/
structure MissI (ps : List Pc) (kvs left : List (Str × Value)) (acc : List Str) : Prop where
  sound : ∀ s ∈ acc, s ∈ missL ps
  full : ∀ p ∈ ps, (∃ v, (p.nm, v) ∈ left) ∨ ∀ s ∈ p.cl, fnd s ps = none → s ∈ acc
  len : acc.length + left.length * 100 ≤ 10000
  size : ∀ s ∈ acc, s.size ≤ LIM

/-- The same within an entry. -/
structure MissJ (ps : List Pc) (p : Pc) (acc acc' : List Str) (j : Nat) : Prop where
  sound : ∀ s ∈ acc', s ∈ missL ps
  old : ∀ s ∈ acc, s ∈ acc'
  full : ∀ s ∈ p.cl.take j, fnd s ps = none → s ∈ acc'
  len : acc'.length ≤ acc.length + j
  size : ∀ s ∈ acc', s.size ≤ LIM

theorem MapK.look {κ : Type} [DecidableEq κ] {P : Program} {enc : κ → Value} {w : World} {b : Nat} {kvs : List (κ × Value)} (h : MapK enc w b kvs) {t k e : TypeId} (H : KeyOK P k enc) (ht : P.underlying t = some (.map k e)) {z : Value} (hz : (zeroValue e).run P w = .ok z w) {x : κ} {r : Option Value} (hr : getK x kvs = r) :
    (Instr.lookup t (.map (some b)) (enc x) false).run P w = .ok (r.getD z) w ∧ (Instr.lookup t (.map (some b)) (enc x) true).run P w = .ok (.tuple #[r.getD z, .bool r.isSome]) w := by
  subst hr
  exact ⟨by simpa using h.lookup H ht hz x false, by simpa using h.lookup H ht hz x true⟩

set_option maxRecDepth 100000 in
set_option maxHeartbeats 4000000 in
theorem c_missing (b : Nat) (ps : List Pc) (w : World) (h : MapP w b ps) (hn : (ps.map (·.nm)).Nodup) (hl : ps.length ≤ 100) (hc : ∀ p ∈ ps, p.cl.length ≤ 100) :
    Calls Try.prog 53 #[.map (some b)] w fun e w' => ∃ A c, e = .returned (.slice A (missS ps).length c) ∧ SlR w' 1 RStr A (missS ps).length c (missS ps) ∧ Below w.heap.size w w' := by
  obtain ⟨kvs, hk, hpv⟩ := h
  have hkl : kvs.length = ps.length := by have := congrArg List.length hpv.keys; simpa using this
  obtain ⟨w1, hr1, hR1, hb1, hsw1⟩ := MapK.range (P := Try.prog) hk Try.underlying57
  have hsz1 : Box (w.heap.size < w1.heap.size) := ⟨hR1.lt⟩
  have HR1 := Box.mk hR1
  have HSZ1 : Box (∀ {W : World} {l : List (Str × Value)}, RangeK encS W b w.heap.size l kvs → w1.heap.size ≤ W.heap.size) := ⟨fun h => by have := h.lt; rw [hsw1]; omega⟩
  have HB1 := Box.mk hb1
  have HPV := Box.mk hpv
  have HC := Box.mk hc
  have HI0 : Box (MissI ps kvs kvs []) := ⟨⟨by simp, fun p hp => .inl (by
    have : p.nm ∈ kvs.map (·.1) := by rw [hpv.keys]; exact List.mem_map_of_mem hp
    obtain ⟨⟨x, v⟩, hx, e⟩ := List.mem_map.1 this
    exact ⟨v, by cases e; exact hx⟩), by simp; omega, by simp⟩⟩
  have hblt := hk.lt
  have HBL := Box.mk hblt
  have HN := Box.mk hn
  clear hsw1 hR1 hb1 hk hpv hc hkl hl hblt hn
  go_enter Try.func53, Try.ntmps53
  go_wp2_with fail
  clear hr1
  go_loopg [3, 5, 7, 8, 9] kvs.length (fun g out _ _ _ _ wr => ∃ left acc, g = left.length ∧ Box (RangeK encS wr b w.heap.size left kvs) ∧ Box (Below w.heap.size w wr) ∧ Box (wr.ownsRow w1.heap.size 9 1 out acc.length (acc.map Value.string)) ∧ Box (MissI ps kvs left acc))
  case atStart => exact ⟨kvs, [], rfl, HR1, HB1, ⟨World.ownsRow_nil _ _ _ _⟩, HI0⟩
  case round =>
    obtain ⟨left, acc, rfl, HR, HB, HO, HI⟩ := hrel
    have HOS : Box (∀ B, u3.ownBlock = some B → w1.heap.size ≤ B ∧ B < wr.heap.size) := ⟨HO.out.lt⟩
    rcases RangeK.next (P := Try.prog) HR.out 0 with ⟨rfl, hr⟩ | ⟨l1, x, v, l2, w2, rfl, hr, hr', hR2, hg2, hs2⟩
    · have hacc : Box (setS acc = missS ps ∧ (∀ x ∈ acc, x.size ≤ LIM) ∧ acc.length ≤ 10000) := ⟨by
        refine ⟨setS_ext fun s => ⟨HI.out.sound s, fun h => ?_⟩, HI.out.size, by have := HI.out.len; omega⟩
        obtain ⟨⟨p, hp, hs⟩, hno⟩ := mem_missL.1 h
        rcases HI.out.full p hp with ⟨v, hv⟩ | h
        · cases hv
        · exact h s hs hno⟩
      have hlen := hacc.out.2.2
      go_wp2_with fail
      refine (c_Sort w1.heap.size u3 acc wr HO.out (by omega)).mono ?_
      rintro e w2 ⟨rfl, ho2, hg2⟩
      have HO2 := Box.mk ho2
      have HB2 := Box.mk (below_grown HB.out (by have := hsz1.out; omega) HB.out.size HO.out hg2)
      clear ho2 hg2 hr
      go_wp2_with fail
      refine (c_Compact w1.heap.size u3 acc w2 HO2.out hacc.out.2.1 (by omega)).mono ?_
      rintro e w3 ⟨A', c', rfl, hs3, hg3⟩
      have HB3 := Box.mk (below_grown HB2.out (by have := hsz1.out; omega) HB2.out.size HO2.out hg3)
      have HS3 := Box.mk hs3
      rw [hacc.out.1] at HS3 ⊢
      clear hs3 hg3
      go_wp2_with fail
      go_ret
      exact ⟨_, _, rfl, HS3.out, HB3.out⟩
    · have hmem : (x, v) ∈ kvs := by
        obtain ⟨_, _, _, _, _, _, _, hsub⟩ := HR.out
        exact hsub.subset (by simp)
      obtain ⟨p, hp, rfl, A2, n2, c2, rfl, hsl⟩ := HPV.out.mem hmem
      have hB2 : Below w.heap.size w w2 := HB.out.grown hg2 HB.out.size (fun k hk => by injection hk with hk; omega)
      have HB2 := Box.mk hB2
      have HR2 := Box.mk hR2
      have HO2 : Box (w2.ownsRow w1.heap.size 9 1 u3 acc.length (acc.map Value.string)) := ⟨own_other HO.out hg2 (by
        cases hu : u3.ownBlock with
        | none => exact .inl rfl
        | some q => exact .inr (fun e => by injection e with e; have := (HOS.out q hu).1; have := hsz1.out; omega))⟩
      have hn2 := hsl.lim
      have hc2 := HC.out p hp
      rw [hsl.len] at hc2
      have HSL := Box.mk hsl
      have HP := Box.mk hp
      clear hsl hp hB2 hR2 hg2 hmem HOS HO HR HB HR1 HB1 HI0
      have hs2' : Box (w2.heap.size = wr.heap.size) := ⟨hs2⟩
      clear hs2
      go_wp2_with fail
      clear hr hr'
      have HB3 : Box (Below w.heap.size w (w2.alloc (.cells #[.int .i64 p.ov, .slice A2 n2 c2] 64))) := ⟨bel_alloc2 HB2.out _⟩
      have HR3 : Box (RangeK encS (w2.alloc (.cells #[.int .i64 p.ov, .slice A2 n2 c2] 64)) b w.heap.size (l1 ++ l2) kvs) := ⟨HR2.out.alloc _⟩
      have HO3 : Box ((w2.alloc (.cells #[.int .i64 p.ov, .slice A2 n2 c2] 64)).ownsRow w1.heap.size 9 1 u3 acc.length (acc.map Value.string)) := ⟨HO2.out.alloc _⟩
      have HJ0 : Box (MissJ ps p acc acc 0) := ⟨⟨HI.out.sound, fun _ h => h, by simp, by omega, HI.out.size⟩⟩
      clear HB2 HR2 HO2 hs2'
      go_loopw [3, 7, 8, 9, 19] (fun out _ _ _ i wx => ∃ (j : Nat) (acc' : List Str), j ≤ n2 ∧ i = .int .i64 j ∧ Box (RangeK encS wx b w.heap.size (l1 ++ l2) kvs) ∧ Box (Below w.heap.size w wx) ∧ Box (wx.ownsRow w1.heap.size 9 1 out acc'.length (acc'.map Value.string)) ∧ Box (MissJ ps p acc acc' j)) (fun _ _ _ _ i _ => n2 - (intOf i).toNat)
      case atStart => exact ⟨0, acc, Nat.zero_le _, rfl, HR3, HB3, HO3, HJ0⟩
      case round =>
        clear HB3 HR3 HO3 HJ0
        obtain ⟨j, acc', hj, rfl, HR, HB, HO, HJ⟩ := hrel
        by_cases hjl : j < n2
        · obtain ⟨b5, o5, x, rfl, hb5, hx5, hs5, hc5⟩ := HSL.out.str_at j hjl
          replace hc5 := cellk HB.out hb5 hc5
          have HX := Box.mk hx5
          have HXS := Box.mk hs5
          have htk : Box (p.cl.take (j + 1) = p.cl.take j ++ [x]) := ⟨by rw [List.take_add_one, hx5]; rfl⟩
          have HOS : Box (∀ B, u3.ownBlock = some B → w1.heap.size ≤ B ∧ B < wr.heap.size) := ⟨HO.out.lt⟩
          have hkv := HR.out.mapK
          clear hx5 hs5
          cases hf : fnd x ps with
          | some q =>
            obtain ⟨v, hv, A7, n7, c7, rfl, hq⟩ := HPV.out.get_some hf
            have hlk : (Instr.lookup 57 (.map (some b)) (.string x) true).run Try.prog wr = .ok (.tuple #[.agg #[.int .i64 q.ov, .slice A7 n7 c7], .bool true]) wr := (hkv.look keyS Try.underlying57 (zero_proc wr) hv).2
            have HF := Box.mk hf
            clear hkv hv hq hf
            go_wp2_with fail
            clear hlk
            have HBW : Box (Below w.heap.size w (wr.alloc (.cells #[.int .i64 q.ov, .slice A7 n7 c7] 64))) := ⟨bel_alloc2 HB.out _⟩
            have HRW : Box (RangeK encS (wr.alloc (.cells #[.int .i64 q.ov, .slice A7 n7 c7] 64)) b w.heap.size (l1 ++ l2) kvs) := ⟨HR.out.alloc _⟩
            have HOW : Box ((wr.alloc (.cells #[.int .i64 q.ov, .slice A7 n7 c7] 64)).ownsRow w1.heap.size 9 1 u3 acc'.length (acc'.map Value.string)) := ⟨HO.out.alloc _⟩
            go_roundw
            case rel =>
              refine ⟨j + 1, acc', by omega, by go_num, HRW, HBW, HOW, ⟨⟨HJ.out.sound, HJ.out.old, fun s hs hno => ?_, by have := HJ.out.len; omega, HJ.out.size⟩⟩⟩
              rw [htk.out, List.mem_append] at hs
              rcases hs with hs | hs
              · exact HJ.out.full s hs hno
              · obtain rfl : s = x := by simpa using hs
                rw [HF.out] at hno; cases hno
            case measure => simp [intOf]; omega
          | none =>
            have hv := HPV.out.get_none hf
            have hlk : (Instr.lookup 57 (.map (some b)) (.string x) true).run Try.prog wr = .ok (.tuple #[.agg #[.int .i64 0, .slice none 0 0], .bool false]) wr := (hkv.look keyS Try.underlying57 (zero_proc wr) hv).2
            have HF := Box.mk hf
            have hlen : acc'.length ≤ 10000 := by have := HJ.out.len; have := HI.out.len; simp at this; omega
            clear hkv hv hf
            have D3 : Box (w1.heap.size ≤ wr.heap.size) := ⟨HSZ1.out HR.out⟩
            go_wp2_with (at_builtin; refine wpL_app _ w1.heap.size rfl _ _ 23 9 rfl (.string ByteArray.empty) 1 16 Try.underlying23 info_str rfl (by decide) (by decide) u3 _ _ rfl ((HO.out.alloc _).alloc _) (some ⟨_, 0, none⟩) 1 1 [.string x] rfl (src_at _ _ _ _ (by simp) rfl) (by omega) (by have := D3.out; simp; omega) ?_; intro v3' wa ho3 hg3' hat3)
            have hg3 : wr.grownBy wa u3.ownBlock := ⟨hg3'.os, hg3'.tape, hg3'.output, by have := hg3'.size; simp at this; omega, fun i hi hne => by rw [hg3'.block i (by simp; omega) hne, Below.heap_alloc _ _ _ (by simp; omega), Below.heap_alloc _ _ _ hi]⟩
            have HO3 := Box.mk ho3
            have HG3 := Box.mk hg3
            clear hg3' hg3 ho3 hat3
            have HBW := Box.mk (below_grown HB.out (by have := hsz1.out; omega) HB.out.size HO.out HG3.out)
            have HRW := Box.mk (HR.out.kept HG3.out (fun e => by have := (HOS.out b e.symm).1; have := hsz1.out; have := HBL.out; omega) (fun e => by have := (HOS.out _ e.symm).1; have := hsz1.out; omega))
            go_roundw
            case rel =>
              refine ⟨j + 1, acc' ++ [x], by omega, by go_num, HRW, HBW, ⟨by rw [List.map_append, List.length_append]; exact HO3.out⟩, ⟨⟨?_, ?_, ?_, ?_, ?_⟩⟩⟩
              · intro s hs
                rcases List.mem_append.1 hs with hs | hs
                · exact HJ.out.sound s hs
                · obtain rfl : s = x := by simpa using hs
                  exact mem_missL.2 ⟨⟨p, HP.out, List.mem_iff_getElem?.2 ⟨j, HX.out⟩⟩, HF.out⟩
              · intro s hs
                exact List.mem_append.2 (.inl (HJ.out.old s hs))
              · intro s hs hno
                rw [htk.out, List.mem_append] at hs
                rcases hs with hs | hs
                · exact List.mem_append.2 (.inl (HJ.out.full s hs hno))
                · exact List.mem_append.2 (.inr hs)
              · have := HJ.out.len
                simp
                omega
              · intro s hs
                rcases List.mem_append.1 hs with hs | hs
                · exact HJ.out.size s hs
                · obtain rfl : s = x := by simpa using hs
                  exact HXS.out
            case measure => simp [intOf]; omega
        · obtain rfl : j = n2 := by omega
          have hIn : Box (MissI ps kvs (l1 ++ l2) acc') := ⟨⟨HJ.out.sound, fun q hq => ?_, ?_, HJ.out.size⟩⟩
          · go_wp2_with fail
            go_roundg (l1 ++ l2).length
            case measure => simp
            case rel => exact ⟨l1 ++ l2, acc', rfl, HR, HB, HO, hIn⟩
          · rcases HI.out.full q hq with ⟨v, hv⟩ | h
            · simp only [List.mem_append, List.mem_cons] at hv ⊢
              rcases hv with hv | hv | hv
              · exact .inl ⟨v, .inl hv⟩
              · injection hv with e1 e2
                have hqp : q = p := nodup_map_of HN.out hq HP.out e1
                subst hqp
                exact .inr (fun s hs hno => HJ.out.full s (by rw [List.take_of_length_le (by rw [HSL.out.len]; exact Nat.le_refl _)]; exact hs) hno)
              · exact .inl ⟨v, .inr hv⟩
            · exact .inr (fun s hs hno => HJ.out.old s (h s hs hno))
          · have h1 := HI.out.len
            have h2 := HJ.out.len
            simp only [List.length_append, List.length_cons] at h1 ⊢
            omega
end Go.Proofs.Ytchhjldopecliaa
