/-
That LinkWhole returns true. Condition: the arguments are a slice of modules, a text and a slice of texts.
-/
import Derived.Test.YtchhjldopecliaaP4
namespace Go.Proofs.Ytchhjldopecliaa
open Go.RowKit

theorem info_md : (Try.prog.info? 33).map (fun i => (i.zero, i.size, i.bytes)) = some (some (.agg #[.string ByteArray.empty, .int .i64 0, .slice none 0 0, .slice none 0 0, .slice none 0 0]), 5, 96) := by kernel_rfl
theorem md_zero_size : (Value.agg #[.string ByteArray.empty, .int .i64 0, .slice none 0 0, .slice none 0 0, .slice none 0 0]).cells.size = 5 := by kernel_rfl

theorem src_new_at (w : World) (cs : List Value) (t : TypeId) (p sz : Nat) (hp : p = w.heap.size) (hl : cs.length = sz) (h1 : ∀ u ∈ cs, u.oneCell' = true) : Src (w.alloc (.cells cs.toArray t)) (some ⟨p, 0, none⟩) 1 sz cs := by
  subst hp hl
  exact src_new w cs t h1

/-- One's own module's cells. -/
def MdB (w : World) (p : Nat) (nm : Str) (o : Int) (s1 s2 s3 : Value) : Prop := w.heap[p]? = some (.cells #[.string nm, .int .i64 o, s1, s2, s3] 33 (0, 0))
theorem MdB.cells {w : World} {p : Nat} {nm : Str} {o : Int} {s1 s2 s3 : Value} (h : MdB w p nm o s1 s2 s3) :
    w.cell? ⟨p, 0, none⟩ = some (.string nm) ∧ w.cell? ⟨p, 1, none⟩ = some (.int .i64 o) ∧ w.cell? ⟨p, 2, none⟩ = some s1 ∧ w.cell? ⟨p, 3, none⟩ = some s2 ∧ w.cell? ⟨p, 4, none⟩ = some s3 ∧ w.frozen? ⟨p, 1, none⟩ = false := by
  unfold MdB at h
  simp [World.cell?, World.frozen?, h]
theorem MdB.lt {w : World} {p : Nat} {nm : Str} {o : Int} {s1 s2 s3 : Value} (h : MdB w p nm o s1 s2 s3) : p < w.heap.size := (Array.getElem?_eq_some_iff.1 h).1
theorem MdB.set {w : World} {p : Nat} {nm : Str} {o : Int} {s1 s2 s3 : Value} (h : MdB w p nm o s1 s2 s3) (o' : Int) : MdB (w.setCell ⟨p, 1, none⟩ (.int .i64 o')) p nm o' s1 s2 s3 ∧ w.grownBy (w.setCell ⟨p, 1, none⟩ (.int .i64 o')) (some p) := by
  unfold MdB at *
  refine ⟨?_, ⟨rfl, rfl, rfl, by simp [World.setCell], fun i hi hne => ?_⟩⟩
  · simp [World.setCell, Array.getElem?_modify, h]
  · simp only [World.setCell]
    have hne' : p ≠ i := fun e => hne (by rw [e])
    simp [Array.getElem?_modify, hne']
theorem MdB.new (w : World) (nm : Str) (o : Int) (s1 s2 s3 : Value) : MdB (w.alloc (.cells #[.string nm, .int .i64 o, s1, s2, s3] 33)) w.heap.size nm o s1 s2 s3 := heap_alloc_new w _

def ltB (v : Value) (p : Nat) : Prop := ∀ B, v.ownBlock = some B → B < p
theorem own_ne {v : Value} {p : Nat} (h : ltB v p) : v.ownBlock = none ∨ v.ownBlock ≠ some p := by
  cases hv : v.ownBlock with
  | none => exact .inl rfl
  | some q => exact .inr (fun e => by injection e with e; have := h q hv; omega)

set_option maxRecDepth 100000 in
set_option maxHeartbeats 2000000 in
theorem c_LinkWhole (A : Option Addr) (n c : Nat) (ms : List Md) (x : Str) (A2 : Option Addr) (n2 c2 : Nat) (walk : List Str) (w : World) (h : SlR w 5 RMd A n c ms) (h2 : SlR w 1 RStr A2 n2 c2 walk) (hx : x.size ≤ LIM) :
    Calls Try.prog 3 #[.slice A n c, .string x, .slice A2 n2 c2] w fun e w' => e = .returned (.bool true) ∧ Below w.heap.size w w' := by
  have hlim := h.lim
  have hlim2 := h2.lim
  have H := Box.mk h
  have H2 := Box.mk h2
  clear h h2
  rw [LIM_eq] at hx
  go_enter Try.func3, Try.ntmps3
  go_wp2_with fail
  refine (c_over A n c ms w H.out).mono ?_
  rintro e w1 ⟨⟨q, rfl, hq⟩, hb1⟩
  have HB1 := Box.mk hb1
  have HQ := Box.mk hq
  clear hb1 hq
  cases q
  case true =>
    go_wp2_with fail
    refine (c_known w1).mono ?_
    rintro e w2 ⟨rfl, hb2⟩
    have HB2 := Box.mk (below_tr HB1.out HB1.out.size hb2)
    clear hb2
    go_wp2_with fail
    go_ret
    exact ⟨rfl, HB2.out⟩
  case false =>
    have HNB : Box (n < 65536) := ⟨HQ.out rfl⟩
    clear HQ
    by_cases hxm : ((x.size : Nat) : Int) ≤ 65536
    case neg =>
      go_wp2_with fail
      refine (c_known w1).mono ?_
      rintro e w2 ⟨rfl, hb2⟩
      have HB2 := Box.mk (below_tr HB1.out HB1.out.size hb2)
      clear hb2
      go_wp2_with fail
      go_ret
      exact ⟨rfl, HB2.out⟩
    case pos =>
      go_wp2_with fail
      refine (c_heavyTexts A2 n2 c2 walk w1 (H2.out.below mono_str HB1.out)).mono ?_
      rintro e w2 ⟨rfl, rfl⟩
      generalize hvyK n2 walk = hv
      by_cases hvm : hv ≤ 65536
      case neg =>
        go_wp2_with fail
        refine (c_known w1).mono ?_
        rintro e w2 ⟨rfl, hb2⟩
        have HB2 := Box.mk (below_tr HB1.out HB1.out.size hb2)
        clear hb2
        go_wp2_with fail
        go_ret
        exact ⟨rfl, HB2.out⟩
      case pos =>
        go_wp2_with fail
        refine (c_Loads A n c ms x A2 n2 c2 walk w1 (H.out.below mono_md HB1.out) (H2.out.below mono_str HB1.out)).mono ?_
        rintro e w2 ⟨rfl, hb2⟩
        have HB2 := Box.mk (below_tr HB1.out HB1.out.size hb2)
        clear hb2
        generalize hE : (lds ms x walk).2 = E
        have HE := Box.mk hE
        clear hE
        generalize (lds ms x walk).1 = E1
        go_wp2_with fail
        go_loopw [9, 10, 11, 12] (fun v9 v10 i _ wr => ∃ k : Nat, k ≤ n ∧ i = .int .i64 k ∧ Box (Below w.heap.size w wr) ∧ Box (OwnL wr w w.heap.size 33 5 RMd v9 ((ms.take k).map (setOv 0))) ∧ Box (OwnL wr w w.heap.size 33 5 RMd v10 ((ms.take k).map (setOv 1))) ∧ Box (Apart v9 v10)) (fun _ _ i _ _ => n - (intOf i).toNat)
        case atStart => exact ⟨0, Nat.zero_le _, rfl, HB2, ⟨OwnL.nil⟩, ⟨OwnL.nil⟩, ⟨.inl rfl⟩⟩
        case round =>
          obtain ⟨k, hk, rfl, HB, H9, H10, HAp⟩ := hrel
          by_cases hlt : k < n
          · obtain ⟨b, off, m, A1, n1, c1, A3, n3, c3, A4, n4, c4, rfl, hb, hm, hM, h0, h1, h2, h3, h4⟩ := H.out.md_at k hlt
            replace h0 := cellk HB.out hb h0
            replace h1 := cellk HB.out hb h1
            replace h2 := cellk HB.out hb h2
            replace h3 := cellk HB.out hb h3
            replace h4 := cellk HB.out hb h4
            have HM := Box.mk hM
            have HK9 : Box (((ms.take k).map (setOv 0)).length = k ∧ ((ms.take k).map (setOv 1)).length = k) := ⟨by
              have := H.out.len
              simp; omega⟩
            have HT : Box (∀ o, (ms.take (k + 1)).map (setOv o) = (ms.take k).map (setOv o) ++ [setOv o m]) := ⟨fun o => by rw [List.take_add_one, hm]; simp⟩
            have N9 : Box (ltB u9 wr.heap.size) := ⟨fun B e => (H9.out.lt B e).2⟩
            have N10 : Box (ltB u10 wr.heap.size) := ⟨fun B e => (H10.out.lt B e).2⟩
            have HR0 : Box (∀ o, RMd w (setOv o m) [.string m.nm, .int .i64 o, .slice A1 n1 c1, .slice A3 n3 c3, .slice A4 n4 c4]) := ⟨fun o => ⟨A1, n1, c1, A3, n3, c3, A4, n4, c4, rfl, hM.nm, hM.pr, hM.sz, hM.cl⟩⟩
            clear hM hm
            go_upto_region 9 with fail
            have hmd := MdB.new wr m.nm m.ov (.slice A1 n1 c1) (.slice A3 n3 c3) (.slice A4 n4 c4)
            have HB' := Box.mk (bel_alloc2 HB.out (.cells #[.string m.nm, .int .i64 m.ov, .slice A1 n1 c1, .slice A3 n3 c3, .slice A4 n4 c4] 33))
            have H9' := Box.mk (H9.out.below (bel_alloc wr (.cells #[.string m.nm, .int .i64 m.ov, .slice A1 n1 c1, .slice A3 n3 c3, .slice A4 n4 c4] 33)))
            have H10' := Box.mk (H10.out.below (bel_alloc wr (.cells #[.string m.nm, .int .i64 m.ov, .slice A1 n1 c1, .slice A3 n3 c3, .slice A4 n4 c4] 33)))
            have hpB : Box (w.heap.size ≤ wr.heap.size) := ⟨HB.out.size⟩
            generalize hp : wr.heap.size = p at *
            generalize (wr.alloc (.cells #[.string m.nm, .int .i64 m.ov, .slice A1 n1 c1, .slice A3 n3 c3, .slice A4 n4 c4] 33)) = W1 at *
            have HMD := Box.mk hmd
            obtain ⟨d0, d1, d2, d3, d4, f1⟩ := hmd.cells
            clear hp hmd h0 h1 h2 h3 h4 HB H9 H10
            go_upto_region 10 with fail
            obtain ⟨hmd2, hg2⟩ := HMD.out.set 0
            have HMD2 := Box.mk hmd2
            have HB2' : Box (Below w.heap.size w (W1.setCell ⟨p, 1, none⟩ (.int .i64 0))) := ⟨HB'.out.grown hg2 HB'.out.size (fun q hq => by injection hq with hq; have := hpB.out; omega)⟩
            have H9a := Box.mk (H9'.out.kept hg2 (own_ne N9.out))
            have H10a := Box.mk (H10'.out.kept hg2 (own_ne N10.out))
            generalize (W1.setCell ⟨p, 1, none⟩ (.int .i64 0)) = W2 at *
            clear hmd2 hg2 d0 d1 d2 d3 d4 f1 HB' H9' H10' HMD
            obtain ⟨d0, d1, d2, d3, d4, f1⟩ := HMD2.out.cells
            obtain ⟨flat9, o9, P9⟩ := H9a.out.opened
            have O9 := Box.mk o9
            have P9' := Box.mk P9
            have BS0 : Box (w.heap.size ≤ W2.heap.size) := ⟨HB2'.out.size⟩
            clear o9 P9
            go_upto_region 11 with (at_builtin; refine wpL_app _ w.heap.size rfl _ _ 22 33 rfl (.agg #[.string ByteArray.empty, .int .i64 0, .slice none 0 0, .slice none 0 0, .slice none 0 0]) 5 96 Try.underlying22 info_md md_zero_size (by decide) (by decide) u9 _ flat9 rfl (O9.out.alloc _) (some ⟨_, 0, none⟩) 1 1 [.string m.nm, .int .i64 0, .slice A1 n1 c1, .slice A3 n3 c3, .slice A4 n4 c4] rfl (src_new_at _ _ _ _ _ rfl rfl (by simp [Value.oneCell'])) (by have := HK9.out; have := HNB.out; omega) (by have := BS0.out; simp; omega) ?_; intro v9' wa ho9 hg9' hat9)
            have hg9 := grown_al W2 hg9' rfl rfl rfl rfl
            have hpW2 := HMD2.out.lt
            have HAT9 : Box (v9'.ownBlock ≠ some p) := ⟨by
              rcases hat9 with e | e
              · rw [e]; intro e'; have := N9.out p e'; omega
              · rw [e]; intro e'; injection e' with e'; simp at e'; omega⟩
            have H9b := Box.mk (P9'.out wa v9' (setOv 0 m) _ rfl (HR0.out 0) ho9)
            have HMDa : Box (MdB wa p m.nm 0 (.slice A1 n1 c1) (.slice A3 n3 c3) (.slice A4 n4 c4)) := ⟨(hg9.block p hpW2 (fun e => by have := N9.out p e.symm; omega)).trans HMD2.out⟩
            have H10b := Box.mk (H10a.out.kept hg9 HAp.out.symm)
            have HBa : Box (Below w.heap.size w wa) := ⟨HB2'.out.grown hg9 HB2'.out.size (fun q hq => (H9a.out.lt q hq).1)⟩
            have HApa : Box (Apart v9' u10) := ⟨HAp.out.step (L := p) N10.out (by simp; omega) hat9⟩
            rw [← HT.out 0] at H9b
            clear hg9 hg9' ho9 hat9 d0 d1 d2 d3 d4 f1 H10a H9a HB2' HMD2 O9 P9' HAp BS0 hpW2
            obtain ⟨d0, d1, d2, d3, d4, f1⟩ := HMDa.out.cells
            go_upto_region 12 with fail
            obtain ⟨hmd3, hg3⟩ := HMDa.out.set 1
            have HMD3 := Box.mk hmd3
            have HB3' : Box (Below w.heap.size w (wa.setCell ⟨p, 1, none⟩ (.int .i64 1))) := ⟨HBa.out.grown hg3 HBa.out.size (fun q hq => by injection hq with hq; have := hpB.out; omega)⟩
            have H9c := Box.mk (H9b.out.kept hg3 (.inr HAT9.out))
            have H10c := Box.mk (H10b.out.kept hg3 (own_ne N10.out))
            generalize (wa.setCell ⟨p, 1, none⟩ (.int .i64 1)) = W3 at *
            clear hmd3 hg3 d0 d1 d2 d3 d4 f1 HBa H9b H10b HMDa
            obtain ⟨d0, d1, d2, d3, d4, f1⟩ := HMD3.out.cells
            obtain ⟨flat10, o10, P10⟩ := H10c.out.opened
            have O10 := Box.mk o10
            have P10' := Box.mk P10
            have BS1 : Box (w.heap.size ≤ W3.heap.size) := ⟨HB3'.out.size⟩
            clear o10 P10
            go_wp2_with (at_builtin; refine wpL_app _ w.heap.size rfl _ _ 22 33 rfl (.agg #[.string ByteArray.empty, .int .i64 0, .slice none 0 0, .slice none 0 0, .slice none 0 0]) 5 96 Try.underlying22 info_md md_zero_size (by decide) (by decide) u10 _ flat10 rfl (O10.out.alloc _) (some ⟨_, 0, none⟩) 1 1 [.string m.nm, .int .i64 1, .slice A1 n1 c1, .slice A3 n3 c3, .slice A4 n4 c4] rfl (src_new_at _ _ _ _ _ rfl rfl (by simp [Value.oneCell'])) (by have := HK9.out; have := HNB.out; omega) (by have := BS1.out; simp; omega) ?_; intro v10' wb ho10 hg10' hat10)
            have hg10 := grown_al W3 hg10' rfl rfl rfl rfl
            have H10d := Box.mk (P10'.out wb v10' (setOv 1 m) _ rfl (HR0.out 1) ho10)
            rw [← HT.out 1] at H10d
            have H9d := Box.mk (H9c.out.kept hg10 HApa.out)
            have HBd : Box (Below w.heap.size w wb) := ⟨HB3'.out.grown hg10 HB3'.out.size (fun q hq => (H10c.out.lt q hq).1)⟩
            have HApd : Box (Apart v9' v10') := ⟨(Apart.step (L := W3.heap.size) HApa.out.symm (fun B e => (H9c.out.lt B e).2) (by simp) hat10).symm⟩
            clear hg10 hg10' ho10 hat10 d0 d1 d2 d3 d4 f1
            go_roundw
            case rel => exact ⟨k + 1, by omega, by go_num, HBd, H9d, H10d, HApd⟩
            case measure => simp [intOf]; omega
          · obtain rfl : k = n := by omega
            rw [List.take_of_length_le (by rw [H.out.len]; exact Nat.le_refl _)] at H9 H10
            have hml : ms.length = k := H.out.len
            have hk65 := HNB.out
            obtain ⟨B9, c9, e9, S9⟩ := H9.out.slr mono_md HB.out (by rw [List.length_map, LIM_eq]; omega)
            rw [List.length_map, hml] at e9 S9
            subst e9
            obtain ⟨B10, c10, e10, S10⟩ := H10.out.slr mono_md HB.out (by rw [List.length_map, LIM_eq]; omega)
            rw [List.length_map, hml] at e10 S10
            subst e10
            have HS9 := Box.mk S9
            have HS10 := Box.mk S10
            clear S9 S10 H9 H10 hk65
            go_wp2_with fail
            refine (c_Loads B9 _ c9 (ms.map (setOv 0)) x _ n2 c2 walk wr HS9.out (H2.out.below mono_str HB.out)).mono ?_
            rintro e w3 ⟨rfl, hb3⟩
            have HB3 := Box.mk (below_tr HB.out HB.out.size hb3)
            have HS10' := Box.mk (HS10.out.below mono_md hb3)
            clear hb3
            rw [lds_root]
            generalize hF : (lds (ms.map (setOv 0)) x walk).2 = F
            have HF := Box.mk hF
            clear hF
            go_wp2_with fail
            refine (c_Loads B10 _ c10 (ms.map (setOv 1)) x _ n2 c2 walk w3 HS10'.out (H2.out.below mono_str HB3.out)).mono ?_
            rintro e w4 ⟨rfl, hb4⟩
            have HB4 := Box.mk (below_tr HB3.out HB3.out.size hb4)
            clear hb4
            have hone := lds_one ms x walk
            have hset1 := fun hv : vld ms = 0 => lds_setOv (ms := ms) 1 (by decide) hv x walk
            have hset0 := fun hv : vld ms = 0 => lds_setOv (ms := ms) 0 (by decide) hv x walk
            rw [HF.out, HE.out] at hset0
            rw [HE.out] at hset1
            generalize (lds (ms.map (setOv 1)) x walk).2 = G at *
            generalize (lds (ms.map (setOv 1)) x walk).1 = M1 at *
            have HONE := Box.mk hone
            have HSET1 := Box.mk hset1
            have HSET0 := Box.mk hset0
            clear hone hset1 hset0
            go_wp2_with fail
            refine (c_Validate _ k c ms w4 (H.out.below mono_md HB4.out)).mono ?_
            rintro e w5 ⟨rfl, hb5⟩
            have HB5 := Box.mk (below_tr HB4.out HB4.out.size hb5)
            clear hb5
            have hM1 : M1 ≤ 1 := HONE.out.1
            by_cases hv : vld ms = 0
            · have e1 := HSET0.out hv
              have e2 := HSET1.out hv
              subst e1 e2
              rw [hv]
              clear hv
              by_cases hG : G = 0
              · subst hG
                obtain rfl : M1 = 1 := HONE.out.2 rfl
                clear hM1
                go_wp2_with fail
                refine (c_known w5).mono ?_
                rintro e w6 ⟨rfl, hb6⟩
                have HB6 := Box.mk (below_tr HB5.out HB5.out.size hb6)
                clear hb6
                go_wp2_with fail
                go_ret
                exact ⟨rfl, HB6.out⟩
              · have hG' : (G != 0) = true := by simpa using hG
                go_wp2_with fail
                refine (c_known w5).mono ?_
                rintro e w6 ⟨rfl, hb6⟩
                have HB6 := Box.mk (below_tr HB5.out HB5.out.size hb6)
                clear hb6
                go_wp2_with fail
                go_ret
                exact ⟨rfl, HB6.out⟩
            · have hv' : (vld ms == 0) = false := by simpa using hv
              clear hv
              generalize vld ms = V at *
              by_cases hG : G = 0
              · subst hG
                obtain rfl : M1 = 1 := HONE.out.2 rfl
                clear hM1
                go_wp2_with fail
                refine (c_known w5).mono ?_
                rintro e w6 ⟨rfl, hb6⟩
                have HB6 := Box.mk (below_tr HB5.out HB5.out.size hb6)
                clear hb6
                go_wp2_with fail
                go_ret
                exact ⟨rfl, HB6.out⟩
              · have hG' : (G != 0) = true := by simpa using hG
                go_wp2_with fail
                refine (c_known w5).mono ?_
                rintro e w6 ⟨rfl, hb6⟩
                have HB6 := Box.mk (below_tr HB5.out HB5.out.size hb6)
                clear hb6
                go_wp2_with fail
                go_ret
                exact ⟨rfl, HB6.out⟩
end Go.Proofs.Ytchhjldopecliaa
