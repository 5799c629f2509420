/-
Keys of maps that are structs or arrays of texts and numbers. No conditions.
The greatest number of loads of walks, as the program looks for it, and that no walk has more: in plain Lean. No conditions.
The greatest number of loads of walks, taken apart as the reference looks for it: in plain Lean. No conditions.
What strings.LastIndex computes at a text of one byte. Condition: the text is one that a machine can hold.
What the inner functions of Worst compute: a step tried, and the worst walk from a state. Conditions: the maps lie in memory, the names are names.
What the inner function of Worst computes: the worst walk from a state. Conditions: the maps lie in memory, the names are names.
What Worst computes. Condition: the arguments are a slice of modules and a text.
That LinkBound returns true. Condition: the arguments are a slice of modules, a text and a slice of texts.
-/
import Derived.Test.YtchhjldopecliaaK6
import Derived.WideKeyRuns
import Derived.StillTailTactics
namespace Go.Proofs.Ytchhjldopecliaa
open Go.RowKit

section
variable {κ : Type} [DecidableEq κ] {P : Program} {K : TypeId} {enc : κ → Value}
/-- The entries are asked one by one. -/
theorem findAsking_of (heq : ∀ (w : World) (x y : κ), (Op.equal K (enc x) (enc y)).run P w = .ok (decide (x = y)) w) (w : World) (x : κ) : ∀ (kvs : List (κ × Value)) (es : List MapEntry) (i : Nat),
    es.map (fun e => (e.key, e.val)) = kvs.map (fun kv => (enc kv.1, kv.2)) → (Instr.findAsking K (enc x) es i).run P w = .ok (findP x kvs i) w
  | [], es, i, h => by
    obtain rfl : es = [] := by simpa using h
    simp [Instr.findAsking, findP]
  | (k, v) :: r, es, i, h => by
    obtain ⟨e, es', rfl, h1, h2⟩ := List.map_eq_cons_iff.1 h
    simp only [Prod.mk.injEq] at h1
    have ih := findAsking_of heq w x r es' (i + 1) h2
    simp only [Instr.findAsking, Sem.run_bind, h1.1, heq, Result.andThen_ok, findP]
    by_cases hx : x = k
    · simp [hx, h1.2]
    · simp [hx, ih]
theorem keyOK_of (hwide : (match P.underlying K with | some (.array _ _) | some (.struct _) => true | _ => false) = true)
    (hcheck : ∀ x empty w, (Instr.checkKey empty 10000 K (enc x)).run P w = .ok () w)
    (heq : ∀ (w : World) (x y : κ), (Op.equal K (enc x) (enc y)).run P w = .ok (decide (x = y)) w)
    (hsame : ∀ x, Instr.sameBits 10000 (enc x) (enc x) = true) : KeyOK P K enc where
  check := hcheck
  find x kvs es w h := by
    rw [run_findKey_eq w hwide]
    exact findAsking_of heq w x kvs es 0 h
  same := hsame
end
theorem plain_of {P : Program} {t : TypeId} (h : P.underlying t = some .string ∨ ∃ q, P.underlying t = some (.int q)) : P.plainKey t = true := by
  unfold Program.plainKey
  rcases h with h | ⟨q, h⟩ <;> rw [h]
theorem bytes_eq (a b : ByteArray) : (a == b) = decide (a = b) := bbeq a b
/-- A struct of a text and a number. -/
theorem keyOK_si {P : Program} {K : TypeId} {f0 f1 : Field} (hK : P.underlying K = some (.struct #[f0, f1])) (h0 : P.underlying f0.type = some .string) (h1 : P.underlying f1.type = some (.int .i64))
    (n0 : f0.name ≠ "_") (n1 : f1.name ≠ "_") (o0 : f0.offset = 0) (o1 : f1.offset = 1) (hs : P.stoodInHeld K = false) :
    KeyOK P K (fun x : Str × Int => Value.agg #[.string x.1, .int .i64 x.2]) := by
  have p0 : ∀ (x : Str × Int) w, (part f0.type #[.string x.1, .int .i64 x.2] f0.offset).run P w = .ok (.string x.1) w := fun x w => run_part_plain w (plain_of (.inl h0)) (by rw [o0]; rfl)
  have p1 : ∀ (x : Str × Int) w, (part f1.type #[.string x.1, .int .i64 x.2] f1.offset).run P w = .ok (.int .i64 x.2) w := fun x w => run_part_plain w (plain_of (.inr ⟨_, h1⟩)) (by rw [o1]; rfl)
  refine keyOK_of (by rw [hK]) (fun x empty w => ?_) (fun w x y => ?_) (fun x => ?_)
  · have c0 : ∀ n, (Instr.checkKey empty (n + 1) f0.type (.string x.1)).run P w = .ok () w := fun n => by
      rw [Instr.checkKey, Sem.run_bind, run_underlying h0, Result.andThen_ok]
      rfl
    have c1 : ∀ n, (Instr.checkKey empty (n + 1) f1.type (.int .i64 x.2)).run P w = .ok () w := fun n => by
      rw [Instr.checkKey, Sem.run_bind, run_underlying h1, Result.andThen_ok]
      rfl
    have : ∀ n, (Instr.checkKey empty (n + 2) K (.agg #[.string x.1, .int .i64 x.2])).run P w = .ok () w := fun n => by
      rw [Instr.checkKey, Sem.run_bind, run_underlying hK, Result.andThen_ok]
      simp [n0, n1, p0, p1, c0, c1]
    exact this 9998
  · have e0 : ∀ n, (Op.equalIn (n + 1) f0.type (.string x.1) (.string y.1)).run P w = .ok (decide (x.1 = y.1)) w := fun n => by
      rw [Op.equalIn, Sem.run_bind, run_underlying h0, Result.andThen_ok]
      show (pure _ : Sem Bool).run P w = _
      rw [Sem.run_pure, bbeq]
    have e1 : ∀ n, (Op.equalIn (n + 1) f1.type (.int .i64 x.2) (.int .i64 y.2)).run P w = .ok (decide (x.2 = y.2)) w := fun n => by
      rw [Op.equalIn, Sem.run_bind, run_underlying h1, Result.andThen_ok]
      show (if IntKind.i64 = IntKind.i64 then pure (x.2 == y.2) else _ : Sem Bool).run P w = _
      rw [if_pos rfl, Sem.run_pure]
      congr 1
    have : ∀ n, (Op.equalIn (n + 2) K (.agg #[.string x.1, .int .i64 x.2]) (.agg #[.string y.1, .int .i64 y.2])).run P w = .ok (decide (x = y)) w := fun n => by
      have hx : decide (x = y) = (decide (x.1 = y.1) && decide (x.2 = y.2)) := by
        rw [Bool.eq_iff_iff]; simp [Prod.ext_iff]
      rw [hx]
      rw [Op.equalIn, Sem.run_bind, run_underlying hK, Result.andThen_ok]
      generalize decide (x.1 = y.1) = a at *
      generalize decide (x.2 = y.2) = b at *
      cases a <;> cases b <;> simp [n0, n1, p0, p1, e0, e1, hs]
    exact this 9998
  · simp [Instr.sameBits, bbeq]
theorem eq_str {P : Program} {t : TypeId} (h : P.underlying t = some .string) (w : World) (n : Nat) (a b : Str) : (Op.equalIn (n + 1) t (.string a) (.string b)).run P w = .ok (decide (a = b)) w := by
  rw [Op.equalIn, Sem.run_bind, run_underlying h, Result.andThen_ok]
  show (pure _ : Sem Bool).run P w = _
  rw [Sem.run_pure, bbeq]
theorem eq_int {P : Program} {t : TypeId} {q : IntKind} (h : P.underlying t = some (.int q)) (w : World) (n : Nat) (a b : Int) : (Op.equalIn (n + 1) t (.int q a) (.int q b)).run P w = .ok (decide (a = b)) w := by
  rw [Op.equalIn, Sem.run_bind, run_underlying h, Result.andThen_ok]
  show (if q = q then pure (a == b) else _ : Sem Bool).run P w = _
  rw [if_pos rfl, Sem.run_pure]
  congr 1
theorem ck_str {P : Program} {t : TypeId} (h : P.underlying t = some .string) (w : World) (n : Nat) (em : Bool) (a : Str) : (Instr.checkKey em (n + 1) t (.string a)).run P w = .ok () w := by
  rw [Instr.checkKey, Sem.run_bind, run_underlying h, Result.andThen_ok]
  rfl
theorem ck_int {P : Program} {t : TypeId} {q : IntKind} (h : P.underlying t = some (.int q)) (w : World) (n : Nat) (em : Bool) (a : Int) : (Instr.checkKey em (n + 1) t (.int q a)).run P w = .ok () w := by
  rw [Instr.checkKey, Sem.run_bind, run_underlying h, Result.andThen_ok]
  rfl
/-- A struct of two texts and two numbers. -/
theorem keyOK_ssii {P : Program} {K : TypeId} {f0 f1 f2 f3 : Field} (hK : P.underlying K = some (.struct #[f0, f1, f2, f3])) (h0 : P.underlying f0.type = some .string) (h1 : P.underlying f1.type = some .string)
    (h2 : P.underlying f2.type = some (.int .i64)) (h3 : P.underlying f3.type = some (.int .i64))
    (n0 : f0.name ≠ "_") (n1 : f1.name ≠ "_") (n2 : f2.name ≠ "_") (n3 : f3.name ≠ "_") (o0 : f0.offset = 0) (o1 : f1.offset = 1) (o2 : f2.offset = 2) (o3 : f3.offset = 3) (hs : P.stoodInHeld K = false) :
    KeyOK P K (fun x : Str × Str × Int × Int => Value.agg #[.string x.1, .string x.2.1, .int .i64 x.2.2.1, .int .i64 x.2.2.2]) := by
  have p0 : ∀ (x : Str × Str × Int × Int) w, (part f0.type #[.string x.1, .string x.2.1, .int .i64 x.2.2.1, .int .i64 x.2.2.2] f0.offset).run P w = .ok (.string x.1) w := fun x w => run_part_plain w (plain_of (.inl h0)) (by rw [o0]; rfl)
  have p1 : ∀ (x : Str × Str × Int × Int) w, (part f1.type #[.string x.1, .string x.2.1, .int .i64 x.2.2.1, .int .i64 x.2.2.2] f1.offset).run P w = .ok (.string x.2.1) w := fun x w => run_part_plain w (plain_of (.inl h1)) (by rw [o1]; rfl)
  have p2 : ∀ (x : Str × Str × Int × Int) w, (part f2.type #[.string x.1, .string x.2.1, .int .i64 x.2.2.1, .int .i64 x.2.2.2] f2.offset).run P w = .ok (.int .i64 x.2.2.1) w := fun x w => run_part_plain w (plain_of (.inr ⟨_, h2⟩)) (by rw [o2]; rfl)
  have p3 : ∀ (x : Str × Str × Int × Int) w, (part f3.type #[.string x.1, .string x.2.1, .int .i64 x.2.2.1, .int .i64 x.2.2.2] f3.offset).run P w = .ok (.int .i64 x.2.2.2) w := fun x w => run_part_plain w (plain_of (.inr ⟨_, h3⟩)) (by rw [o3]; rfl)
  refine keyOK_of (by rw [hK]) (fun x empty w => ?_) (fun w x y => ?_) (fun x => ?_)
  · have : ∀ n, (Instr.checkKey empty (n + 2) K (.agg #[.string x.1, .string x.2.1, .int .i64 x.2.2.1, .int .i64 x.2.2.2])).run P w = .ok () w := fun n => by
      rw [Instr.checkKey, Sem.run_bind, run_underlying hK, Result.andThen_ok]
      simp [n0, n1, n2, n3, p0, p1, p2, p3, ck_str h0, ck_str h1, ck_int h2, ck_int h3]
    exact this 9998
  · have e0 := fun n => eq_str h0 w n x.1 y.1
    have e1 := fun n => eq_str h1 w n x.2.1 y.2.1
    have e2 := fun n => eq_int h2 w n x.2.2.1 y.2.2.1
    have e3 := fun n => eq_int h3 w n x.2.2.2 y.2.2.2
    have : ∀ n, (Op.equalIn (n + 2) K (.agg #[.string x.1, .string x.2.1, .int .i64 x.2.2.1, .int .i64 x.2.2.2]) (.agg #[.string y.1, .string y.2.1, .int .i64 y.2.2.1, .int .i64 y.2.2.2])).run P w = .ok (decide (x = y)) w := fun n => by
      have hx : decide (x = y) = (decide (x.1 = y.1) && (decide (x.2.1 = y.2.1) && (decide (x.2.2.1 = y.2.2.1) && decide (x.2.2.2 = y.2.2.2)))) := by
        rw [Bool.eq_iff_iff]; simp [Prod.ext_iff]
      rw [hx]
      rw [Op.equalIn, Sem.run_bind, run_underlying hK, Result.andThen_ok]
      generalize decide (x.1 = y.1) = a at *
      generalize decide (x.2.1 = y.2.1) = b at *
      generalize decide (x.2.2.1 = y.2.2.1) = c at *
      generalize decide (x.2.2.2 = y.2.2.2) = d at *
      cases a <;> cases b <;> cases c <;> cases d <;> simp [n0, n1, n2, n3, p0, p1, p2, p3, e0, e1, e2, e3, hs]
    exact this 9998
  · simp [Instr.sameBits, bbeq]
/-- An array of three numbers. -/
theorem keyOK_a3 {P : Program} {K e : TypeId} (hK : P.underlying K = some (.array 3 e)) (he : P.underlying e = some (.int .i64)) (hz : ∀ w, (sizeOf e).run P w = .ok 1 w) :
    KeyOK P K (fun x : Int × Int × Int => Value.agg #[.int .i64 x.1, .int .i64 x.2.1, .int .i64 x.2.2]) := by
  have p0 : ∀ (x : Int × Int × Int) w, (part e #[.int .i64 x.1, .int .i64 x.2.1, .int .i64 x.2.2] 0).run P w = .ok (.int .i64 x.1) w := fun x w => run_part_plain w (plain_of (.inr ⟨_, he⟩)) rfl
  have p1 : ∀ (x : Int × Int × Int) w, (part e #[.int .i64 x.1, .int .i64 x.2.1, .int .i64 x.2.2] 1).run P w = .ok (.int .i64 x.2.1) w := fun x w => run_part_plain w (plain_of (.inr ⟨_, he⟩)) rfl
  have p2 : ∀ (x : Int × Int × Int) w, (part e #[.int .i64 x.1, .int .i64 x.2.1, .int .i64 x.2.2] 2).run P w = .ok (.int .i64 x.2.2) w := fun x w => run_part_plain w (plain_of (.inr ⟨_, he⟩)) rfl
  have hr : List.range' 0 3 = [0, 1, 2] := rfl
  refine keyOK_of (by rw [hK]) (fun x empty w => ?_) (fun w x y => ?_) (fun x => ?_)
  · have : ∀ n, (Instr.checkKey empty (n + 2) K (.agg #[.int .i64 x.1, .int .i64 x.2.1, .int .i64 x.2.2])).run P w = .ok () w := fun n => by
      rw [Instr.checkKey, Sem.run_bind, run_underlying hK, Result.andThen_ok]
      simp [Std.Legacy.Range.forIn_eq_forIn_range', Std.Legacy.Range.size, hr, hz, p0, p1, p2, ck_int he]
    exact this 9998
  · have e0 := fun n => eq_int he w n x.1 y.1
    have e1 := fun n => eq_int he w n x.2.1 y.2.1
    have e2 := fun n => eq_int he w n x.2.2 y.2.2
    have : ∀ n, (Op.equalIn (n + 2) K (.agg #[.int .i64 x.1, .int .i64 x.2.1, .int .i64 x.2.2]) (.agg #[.int .i64 y.1, .int .i64 y.2.1, .int .i64 y.2.2])).run P w = .ok (decide (x = y)) w := fun n => by
      have hx : decide (x = y) = (decide (x.1 = y.1) && (decide (x.2.1 = y.2.1) && decide (x.2.2 = y.2.2))) := by
        rw [Bool.eq_iff_iff]; simp [Prod.ext_iff]
      rw [hx]
      rw [Op.equalIn, Sem.run_bind, run_underlying hK, Result.andThen_ok]
      generalize decide (x.1 = y.1) = a at *
      generalize decide (x.2.1 = y.2.1) = b at *
      generalize decide (x.2.2 = y.2.2) = c at *
      cases a <;> cases b <;> cases c <;> simp [Std.Legacy.Range.forIn_eq_forIn_range', Std.Legacy.Range.size, hr, hz, p0, p1, p2, e0, e1, e2]
    exact this 9998
  · simp [Instr.sameBits]
end Go.Proofs.Ytchhjldopecliaa
namespace Go.Proofs.Ytchhjldopecliaa
open Go.RowKit

/-- What a step to a procedure brings, when something is known of the steps behind it. -/
def stepV (ps : List Pc) (f : Str → List Str → Int → Int) (o : Int) (q : Str) (rest : List Str) : Int :=
  (entR (o, 0) (ovOf ps q)).2 + f q rest (entR (o, 0) (ovOf ps q)).1
/-- What one may return to. -/
def backV (ps : List Pc) (f : Str → List Str → Int → Int) (o : Int) : List Str → List Int
  | [] => []
  | t :: r => [stepV ps f o t r]
/-- The greatest number of loads of at most n further steps; the stack's top, what lies below it, and what is in the room. -/
def wst (ps : List Pc) : Nat → Str → List Str → Int → Int
  | 0, _, _, _ => 0
  | n + 1, top, rest, o => ((setS (clOf ps top)).map (fun q => stepV ps (wst ps n) o q (top :: rest)) ++ backV ps (wst ps n) o rest).foldl max 0
/-- What Worst tells. -/
def wor (ms : List Md) (x : Str) (n : Int) : Int × Int :=
  if opf ms x ≠ 0 then (0, opf ms x) else if n < 0 ∨ 12 < n then (0, 1) else
    ((entR (0, 0) (ovOf (prs ms) x)).2 + wst (prs ms) n.toNat x [] (entR (0, 0) (ovOf (prs ms) x)).1, 0)

theorem foldM_ge : ∀ (l : List Int) (a : Int), a ≤ l.foldl max a ∧ ∀ x ∈ l, x ≤ l.foldl max a
  | [], a => ⟨Int.le_refl _, by simp⟩
  | y :: r, a => by
    obtain ⟨h1, h2⟩ := foldM_ge r (max a y)
    rw [List.foldl_cons]
    refine ⟨by omega, fun x hx => ?_⟩
    rcases List.mem_cons.1 hx with rfl | hx
    · omega
    · exact h2 x hx
theorem foldM_le : ∀ (l : List Int) (a b : Int), a ≤ b → (∀ x ∈ l, x ≤ b) → l.foldl max a ≤ b
  | [], a, b, h, _ => h
  | y :: r, a, b, h, hl => by
    rw [List.foldl_cons]
    refine foldM_le r _ b ?_ (fun x hx => hl x (List.mem_cons_of_mem _ hx))
    have := hl y (List.mem_cons_self ..)
    omega
theorem entR_add (o l v : Int) : entR (o, l) v = ((entR (o, 0) v).1, l + (entR (o, 0) v).2) := by
  unfold entR
  by_cases h : v = 0 ∨ v = o
  · rw [if_pos h, if_pos h]; simp
  · rw [if_neg h, if_neg h]; simp
theorem wst_ge (ps : List Pc) : ∀ (n : Nat) (top : Str) (rest : List Str) (o : Int), 0 ≤ wst ps n top rest o
  | 0, _, _, _ => Int.le_refl _
  | n + 1, top, rest, o => by
    rw [wst]
    exact (foldM_ge _ 0).1
theorem wst_le (ps : List Pc) : ∀ (n : Nat) (top : Str) (rest : List Str) (o : Int), wst ps n top rest o ≤ n
  | 0, _, _, _ => Int.le_refl _
  | n + 1, top, rest, o => by
    rw [wst]
    have hs : ∀ q r, stepV ps (wst ps n) o q r ≤ (n + 1 : Nat) := fun q r => by
      have h1 := wst_le ps n q r (entR (o, 0) (ovOf ps q)).1
      have h2 := entR_loads (o, 0) (ovOf ps q)
      unfold stepV
      have h3 : ((o, (0 : Int)) : Int × Int).2 = 0 := rfl
      rw [h3] at h2
      omega
    refine foldM_le _ _ _ (by omega) (fun x hx => ?_)
    rcases List.mem_append.1 hx with hx | hx
    · obtain ⟨q, _, rfl⟩ := List.mem_map.1 hx
      exact hs _ _
    · cases rest with
      | nil => cases hx
      | cons t r =>
        obtain rfl : x = stepV ps (wst ps n) o t r := by simpa [backV] using hx
        exact hs _ _
/-- A walk has no more loads than the worst. -/
theorem lRun_le (ps : List Pc) : ∀ (w : List Str) (top : Str) (rest : List Str) (o l m : Int), lRun ps top rest (o, l) w = some m → m ≤ l + wst ps w.length top rest o
  | [], top, rest, o, l, m, h => by
    rw [lRun] at h
    injection h with h
    subst h
    simp [wst]
  | s :: w, top, rest, o, l, m, h => by
    rw [lRun] at h
    cases hs : lStep ps top rest s with
    | none => rw [hs] at h; cases h
    | some tl =>
      obtain ⟨t, r⟩ := tl
      rw [hs] at h
      have h : lRun ps t r (entR (o, l) (ovOf ps t)) w = some m := h
      rw [entR_add] at h
      have ih := lRun_le ps w t r _ _ m h
      have hv : stepV ps (wst ps w.length) o t r ≤ wst ps (w.length + 1) top rest o := by
        rw [wst]
        refine (foldM_ge _ 0).2 _ (List.mem_append.2 ?_)
        unfold lStep at hs
        split at hs
        · right
          cases rest with
          | nil => cases hs
          | cons t' r' =>
            have hs : some (t', r') = some (t, r) := hs
            injection hs with hs
            injection hs with h1 h2
            subst h1 h2
            simp [backV]
        · split at hs
          · rename_i hc
            injection hs with hs
            injection hs with h1 h2
            subst h1 h2
            left
            exact List.mem_map.2 ⟨s, mem_setS.2 hc, rfl⟩
          · cases hs
      unfold stepV at hv
      rw [List.length_cons]
      omega
/-- No walk has more loads than the worst one of its length. -/
theorem lds_wor {ms : List Md} {x : Str} {walk : List Str} {n : Int} (h : lds ms x walk = (n, 0)) (hl : walk.length ≤ 12) :
    (wor ms x walk.length).2 = 0 ∧ n ≤ (wor ms x walk.length).1 ∧ (wor ms x walk.length).1 ≤ walk.length + 1 := by
  unfold lds at h
  by_cases h0 : opf ms x = 0
  · rw [if_neg (by simpa using h0), if_neg (by omega)] at h
    unfold ldsR at h
    cases hr : lRun (prs ms) x [] (entR (0, 0) (ovOf (prs ms) x)) walk with
    | none => rw [hr] at h; simp at h
    | some m =>
      rw [hr] at h
      simp at h
      subst h
      have hw : wor ms x walk.length = ((entR (0, 0) (ovOf (prs ms) x)).2 + wst (prs ms) walk.length x [] (entR (0, 0) (ovOf (prs ms) x)).1, 0) := by
        unfold wor
        rw [if_neg (by simpa using h0), if_neg (by omega), Int.toNat_natCast]
      rw [hw]
      have h1 := lRun_le (prs ms) walk x [] _ _ m hr
      have h2 := wst_le (prs ms) walk.length x [] (entR (0, 0) (ovOf (prs ms) x)).1
      have h3 := entR_loads (0, 0) (ovOf (prs ms) x)
      simp only at h3
      refine ⟨rfl, h1, ?_⟩
      show _ + _ ≤ _
      omega
  · rw [if_pos h0] at h
    injection h with _ h
    exact absurd h h0
end Go.Proofs.Ytchhjldopecliaa
namespace Go.Proofs.Ytchhjldopecliaa
open Go.RowKit

/-- What is in the room, and what is loaded, when a procedure is entered. -/
def eR (ps : List Pc) (o : Int) (q : Str) : Int := (entR (o, 0) (ovOf ps q)).1
def eL (ps : List Pc) (o : Int) (q : Str) : Int := (entR (o, 0) (ovOf ps q)).2
theorem eL_01 (ps : List Pc) (o : Int) (q : Str) : 0 ≤ eL ps o q ∧ eL ps o q ≤ 1 := by
  have := entR_loads (o, 0) (ovOf ps q)
  simp only at this
  unfold eL
  omega
/-- Walks of exactly n steps that begin in a procedure and end in it, without returning from it: room, steps, room at the end, loads. -/
inductive Cl (ps : List Pc) : Str → Int → Nat → Int → Int → Prop
  | nil (k : Str) (o : Int) : Cl ps k o 0 o 0
  | cons {k q : Str} {o e1 e2 : Int} {a b : Nat} {L1 L2 : Int} : q ∈ clOf ps k → Cl ps q (eR ps o q) a e1 L1 → Cl ps k (eR ps e1 k) b e2 L2 → Cl ps k o (a + b + 2) e2 (eL ps o q + L1 + eL ps e1 k + L2)
/-- Walks of at most n steps that begin in a procedure and do not return from it: their loads. -/
inductive Opw (ps : List Pc) : Str → Int → Nat → Int → Prop
  | stop {k : Str} {o e L : Int} {s n : Nat} : Cl ps k o s e L → s ≤ n → Opw ps k o n L
  | go {k q : Str} {o e L L2 : Int} {s m n : Nat} : Cl ps k o s e L → q ∈ clOf ps k → s + 1 + m = n → Opw ps q (eR ps e q) m L2 → Opw ps k o n (L + eL ps e q + L2)
/-- All walks of at most n steps: their loads. -/
def Wk (ps : List Pc) : Nat → Str → List Str → Int → Int → Prop
  | 0, _, _, _, L => L = 0
  | n + 1, top, rest, o, L => L = 0 ∨ (∃ q ∈ clOf ps top, ∃ L', Wk ps n q (top :: rest) (eR ps o q) L' ∧ L = eL ps o q + L') ∨
      (∃ t r L', rest = t :: r ∧ Wk ps n t r (eR ps o t) L' ∧ L = eL ps o t + L')

theorem Wk_zero (ps : List Pc) : ∀ (n : Nat) (top : Str) (rest : List Str) (o : Int), Wk ps n top rest o 0
  | 0, _, _, _ => rfl
  | _ + 1, _, _, _ => .inl rfl
theorem Cl_ge {ps : List Pc} {k : Str} {o e L : Int} {n : Nat} (h : Cl ps k o n e L) : 0 ≤ L ∧ L ≤ n := by
  induction h with
  | nil => exact ⟨Int.le_refl _, Int.le_refl _⟩
  | @cons k q o e1 e2 a b L1 L2 _ _ _ h1 h2 =>
    have := eL_01 ps o q
    have := eL_01 ps e1 k
    omega
theorem Opw_ge {ps : List Pc} {k : Str} {o L : Int} {n : Nat} (h : Opw ps k o n L) : 0 ≤ L ∧ L ≤ n := by
  induction h with
  | stop h hs => have := Cl_ge h; omega
  | @go k q o e L L2 s m n hc _ _ _ ih =>
    have := Cl_ge hc
    have := eL_01 ps e q
    omega
/-- A closed walk ahead of a walk. -/
theorem Cl.wk {ps : List Pc} {k : Str} {o e L1 : Int} {s : Nat} (h : Cl ps k o s e L1) : ∀ (m : Nat) (rest : List Str) (L2 : Int), Wk ps m k rest e L2 → Wk ps (s + m) k rest o (L1 + L2) := by
  induction h with
  | nil => intro m rest L2 h; simpa using h
  | @cons k q o e1 e2 a b M1 M2 hq _ _ ih1 ih2 =>
    intro m rest L2 h
    have h2 := ih2 m rest L2 h
    have h1 : Wk ps (b + m + 1) q (k :: rest) e1 (eL ps e1 k + (M2 + L2)) := .inr (.inr ⟨k, rest, _, rfl, h2, rfl⟩)
    have h0 := ih1 _ _ _ h1
    rw [show a + b + 2 + m = (a + (b + m + 1)) + 1 by omega]
    exact .inr (.inl ⟨q, hq, _, h0, by omega⟩)
theorem Opw.wk {ps : List Pc} {k : Str} {o L : Int} {n : Nat} (h : Opw ps k o n L) : ∀ rest : List Str, Wk ps n k rest o L := by
  induction h with
  | @stop k o e L s n hc hs =>
    intro rest
    have := hc.wk (n - s) rest 0 (Wk_zero ..)
    rwa [show s + (n - s) = n by omega, Int.add_zero] at this
  | @go k q o e L L2 s m n hc hq hs _ ih =>
    intro rest
    have := hc.wk (m + 1) rest (eL ps e q + L2) (.inr (.inl ⟨q, hq, _, ih (k :: rest), rfl⟩))
    rwa [show s + (m + 1) = n by omega, ← Int.add_assoc] at this
/-- A closed way out and back ahead of a walk that does not return. -/
theorem Opw.ahead {ps : List Pc} {k q : Str} {o e1 L1 L2 : Int} {a m n : Nat} (hq : q ∈ clOf ps k) (h1 : Cl ps q (eR ps o q) a e1 L1) (h : Opw ps k (eR ps e1 k) m L2) (hn : a + m + 2 = n) :
    Opw ps k o n (eL ps o q + L1 + eL ps e1 k + L2) := by
  cases h with
  | stop hc hs => exact .stop (.cons hq h1 hc) (by omega)
  | @go _ q2 _ e L L3 s m' _ hc hq2 hs hr =>
    have := Opw.go (n := n) (.cons hq h1 hc) hq2 (by omega) hr
    rwa [show eL ps o q + L1 + eL ps e1 k + L + eL ps e q2 + L3 = eL ps o q + L1 + eL ps e1 k + (L + eL ps e q2 + L3) by omega] at this
/-- A walk does not return, or it is closed and then returns. -/
theorem Wk.split {ps : List Pc} : ∀ (n : Nat) (top : Str) (rest : List Str) (o L : Int), Wk ps n top rest o L →
    Opw ps top o n L ∨ ∃ s e L1 t r m L2, Cl ps top o s e L1 ∧ rest = t :: r ∧ s + 1 + m = n ∧ Wk ps m t r (eR ps e t) L2 ∧ L = L1 + eL ps e t + L2 := by
  intro n
  induction n using Nat.strongRecOn with
  | _ n ih =>
    intro top rest o L h
    cases n with
    | zero =>
      obtain rfl : L = 0 := h
      exact .inl (.stop (.nil _ _) (Nat.le_refl _))
    | succ n =>
      rcases h with rfl | ⟨q, hq, L', h, rfl⟩ | ⟨t, r, L', rfl, h, rfl⟩
      · exact .inl (.stop (.nil _ _) (Nat.zero_le _))
      · rcases ih n (by omega) q (top :: rest) _ _ h with h | ⟨s, e, L1, t, r, m, L2, hc, e1, hs, hw, rfl⟩
        · left
          have := Opw.go (n := n + 1) (.nil top o) hq (by omega) h
          rwa [Int.zero_add] at this
        · injection e1 with e1 e2
          subst e1 e2
          rcases ih m (by omega) top rest _ _ hw with h | ⟨s2, e2, L3, t, r, m2, L4, hc2, rfl, hs2, hw2, rfl⟩
          · left
            have := Opw.ahead (n := n + 1) hq hc h (by omega)
            rwa [show eL ps o q + L1 + eL ps e top + L2 = eL ps o q + (L1 + eL ps e top + L2) by omega] at this
          · right
            exact ⟨_, _, _, t, r, m2, L4, .cons hq hc hc2, rfl, by omega, hw2, by omega⟩
      · right
        exact ⟨0, o, 0, t, r, n, L', .nil _ _, rfl, by omega, h, by omega⟩
theorem Wk_iff {ps : List Pc} {n : Nat} {x : Str} {o L : Int} : Wk ps n x [] o L ↔ Opw ps x o n L := by
  constructor
  · intro h
    rcases Wk.split n x [] o L h with h | ⟨_, _, _, _, _, _, _, _, e, _⟩
    · exact h
    · cases e
  · exact fun h => h.wk []
theorem foldM_mem : ∀ (l : List Int) (a : Int), l.foldl max a = a ∨ l.foldl max a ∈ l
  | [], a => .inl rfl
  | y :: r, a => by
    rw [List.foldl_cons]
    rcases foldM_mem r (max a y) with h | h
    · rw [h]
      by_cases hy : a ≤ y
      · right; rw [Int.max_eq_right hy]; exact List.mem_cons_self ..
      · left; exact Int.max_eq_left (by omega)
    · right; exact List.mem_cons_of_mem _ h
/-- The program's number is that of a walk, and no walk has more. -/
theorem wst_max (ps : List Pc) : ∀ (n : Nat) (top : Str) (rest : List Str) (o : Int), Wk ps n top rest o (wst ps n top rest o) ∧ ∀ L, Wk ps n top rest o L → L ≤ wst ps n top rest o
  | 0, _, _, _ => ⟨rfl, fun L (h : L = 0) => by rw [h]; exact Int.le_refl _⟩
  | n + 1, top, rest, o => by
    have hm := foldM_mem ((setS (clOf ps top)).map (fun q => stepV ps (wst ps n) o q (top :: rest)) ++ backV ps (wst ps n) o rest) 0
    have hg := (foldM_ge ((setS (clOf ps top)).map (fun q => stepV ps (wst ps n) o q (top :: rest)) ++ backV ps (wst ps n) o rest) 0)
    rw [wst]
    constructor
    · rcases hm with h | h
      · rw [h]; exact .inl rfl
      · rcases List.mem_append.1 h with h | h
        · obtain ⟨q, hq, e⟩ := List.mem_map.1 h
          rw [← e]
          exact .inr (.inl ⟨q, mem_setS.1 hq, _, (wst_max ps n q (top :: rest) _).1, rfl⟩)
        · cases rest with
          | nil => cases h
          | cons t r =>
            generalize ((setS (clOf ps top)).map (fun q => stepV ps (wst ps n) o q (top :: t :: r)) ++ backV ps (wst ps n) o (t :: r)).foldl max 0 = F at *
            obtain rfl : F = stepV ps (wst ps n) o t r := by simpa only [backV, List.mem_singleton] using h
            exact .inr (.inr ⟨t, r, _, rfl, (wst_max ps n t r _).1, rfl⟩)
    · intro L h
      rcases h with rfl | ⟨q, hq, L', h, rfl⟩ | ⟨t, r, L', rfl, h, rfl⟩
      · exact hg.1
      · have h1 := (wst_max ps n q (top :: rest) _).2 _ h
        have h2 := hg.2 _ (List.mem_append.2 (.inl (List.mem_map.2 ⟨q, mem_setS.2 hq, rfl⟩)))
        unfold stepV at h2 ⊢
        unfold eL eR at *
        omega
      · have h1 := (wst_max ps n t r _).2 _ h
        have h2 := hg.2 (stepV ps (wst ps n) o t r) (List.mem_append.2 (.inr (by simp [backV])))
        unfold stepV at h2 ⊢
        unfold eL eR at *
        omega
/-- What is the greatest among the walks that do not return is the program's number. -/
theorem wst_is {ps : List Pc} {n : Nat} {x : Str} {o v : Int} (h1 : Opw ps x o n v) (h2 : ∀ L, Opw ps x o n L → L ≤ v) : wst ps n x [] o = v := by
  obtain ⟨a, b⟩ := wst_max ps n x [] o
  have := h2 _ (Wk_iff.1 a)
  have := b _ (Wk_iff.2 h1)
  omega
end Go.Proofs.Ytchhjldopecliaa
namespace Go.Proofs.Ytchhjldopecliaa
open Go.RowKit

/-- The place of the last byte c among the first k, or -1. -/
def lastB (s : Str) (c : Nat) : Nat → Int
  | 0 => -1
  | k + 1 => if bAt s k = c then (k : Int) else lastB s c k

set_option maxHeartbeats 1000000 in
theorem c_LastByte (s : Str) (c : Nat) (w : World) (hs : s.size ≤ 140737488351232) (hc : c < 256) :
    Calls Try.prog 108 #[.string s, .int .u8 (c : Int)] w fun e w' => e = .returned (.int .i64 (lastB s c s.size)) ∧ w = w' := by
  go_enter Try.func108, Try.ntmps108
  go_wp2_with fail
  go_loop [5] (fun i => ∃ k : Nat, k ≤ s.size ∧ i = .int .i64 ((k : Int) - 1) ∧ Box (lastB s c s.size = lastB s c k)) (fun i => (intOf i + 1).toNat)
  case atStart => exact ⟨s.size, Nat.le_refl _, rfl, ⟨rfl⟩⟩
  case round =>
    obtain ⟨k, hk, rfl, HK⟩ := hrel
    cases k with
    | zero =>
      go_wp2_with fail
      go_ret
      exact ⟨by rw [HK.out]; rfl, rfl⟩
    | succ k =>
      have e : ((k + 1 : Nat) : Int) - 1 = (k : Int) := by omega
      rw [e]
      have hlt : k < s.size := by omega
      have hb := bAt_get s k hlt
      have HS : Box (lastB s c (k + 1) = if bAt s k = c then (k : Int) else lastB s c k) := ⟨rfl⟩
      have hx := bAt_lt s k
      by_cases hq : bAt s k = c
      · rw [if_pos hq] at HS
        have hb2 : ((s[k]'hlt).toNat : Int) = (c : Int) := by omega
        clear hq hb
        go_wp2_with fail
        go_ret
        exact ⟨by rw [HK.out, HS.out]; rfl, rfl⟩
      · rw [if_neg hq] at HS
        have hb2 : (((s[k]'hlt).toNat : Int) == (c : Int)) = false := by rw [beq_eq_false_iff_ne]; omega
        clear hq hb
        go_wp2_with fail
        go_round
        case rel => exact ⟨k, by omega, by go_num, ⟨by rw [HK.out, HS.out]⟩⟩
        case measure => simp [intOf] <;> omega
/-! ### the stack as a text -/
def sp : Str := ⟨#[32]⟩
/-- The names below the stack's top, as the program keeps them. -/
def encst : List Str → Str
  | [] => ByteArray.empty
  | t :: r => encst r ++ sp ++ t
def NoSp (t : Str) : Prop := (32 : UInt8) ∉ bs t
theorem bs_append (a b : Str) : bs (a ++ b) = bs a ++ bs b := by
  unfold bs
  rw [show (a ++ b).data = a.data ++ b.data from ByteArray.data_append]
  simp
theorem bs_enc (t : Str) (r : List Str) : bs (encst (t :: r)) = bs (encst r) ++ 32 :: bs t := by
  rw [encst, bs_append, bs_append]
  have : bs sp = [32] := rfl
  rw [this]
  simp
theorem size_bs (s : Str) : s.size = (bs s).length := by unfold bs; simp
theorem enc_size (t : Str) (r : List Str) : (encst (t :: r)).size = (encst r).size + 1 + t.size := by
  rw [size_bs, bs_enc, size_bs, size_bs]
  simp
  omega
theorem split_last {α : Type} {x : α} : ∀ {A A' T T' : List α}, A ++ x :: T = A' ++ x :: T' → x ∉ T → x ∉ T' → A = A' ∧ T = T' := by
  intro A A' T T' h h1 h2
  rcases List.append_eq_append_iff.1 h with ⟨a, e1, e2⟩ | ⟨a, e1, e2⟩
  · cases a with
    | nil => exact ⟨by simpa using e1.symm, by simpa using e2⟩
    | cons y a =>
      injection e2 with _ e2
      exact absurd (by rw [e2]; simp) h1
  · cases a with
    | nil => exact ⟨by simpa using e1, by simpa using e2.symm⟩
    | cons y a =>
      injection e2 with _ e2
      exact absurd (by rw [e2]; simp) h2
theorem enc_inj : ∀ {r r' : List Str}, encst r = encst r' → (∀ x ∈ r, NoSp x) → (∀ x ∈ r', NoSp x) → r = r'
  | [], [], _, _, _ => rfl
  | [], t :: r, h, _, _ => by
    have := congrArg ByteArray.size h
    rw [enc_size] at this
    have e : (encst []).size = 0 := rfl
    omega
  | t :: r, [], h, _, _ => by
    have := congrArg ByteArray.size h
    rw [enc_size] at this
    have e : (encst []).size = 0 := rfl
    omega
  | t :: r, t' :: r', h, h1, h2 => by
    have := congrArg bs h
    rw [bs_enc, bs_enc] at this
    obtain ⟨a, b⟩ := split_last this (h1 t (List.mem_cons_self ..)) (h2 t' (List.mem_cons_self ..))
    rw [bs_inj b, enc_inj (bs_inj a) (fun x hx => h1 x (List.mem_cons_of_mem _ hx)) (fun x hx => h2 x (List.mem_cons_of_mem _ hx))]
theorem bAt_bs (s : Str) (i : Nat) : bAt s i = ((bs s).getD i 0).toNat := rfl
theorem lastB_hit (s : Str) (c i : Nat) : ∀ k, i < k → bAt s i = c → (∀ j, i < j → j < k → bAt s j ≠ c) → lastB s c k = i
  | 0, h, _, _ => by omega
  | k + 1, h, h1, h2 => by
    rw [lastB]
    by_cases e : i = k
    · subst e
      rw [if_pos h1]
    · rw [if_neg (h2 k (by omega) (by omega)), lastB_hit s c i k (by omega) h1 (fun j a b => h2 j a (by omega))]
theorem enc_last (t : Str) (r : List Str) (h : NoSp t) : lastB (encst (t :: r)) 32 (encst (t :: r)).size = (encst r).size := by
  have hb := bs_enc t r
  refine lastB_hit _ _ _ _ (by rw [enc_size]; omega) ?_ ?_
  · rw [bAt_bs, hb, size_bs, List.getD_eq_getElem?_getD, List.getElem?_append_right (Nat.le_refl _)]
    simp
  · intro j h1 h2 h3
    rw [bAt_bs, hb, List.getD_eq_getElem?_getD] at h3
    rw [size_bs] at h1
    rw [enc_size, size_bs, size_bs] at h2
    rw [List.getElem?_append_right (by omega)] at h3
    obtain ⟨i, hi⟩ : ∃ i, j - (bs (encst r)).length = i + 1 := ⟨j - (bs (encst r)).length - 1, by omega⟩
    rw [hi, List.getElem?_cons_succ] at h3
    have hl : i < (bs t).length := by omega
    rw [List.getElem?_eq_getElem hl] at h3
    refine h ?_
    have : (bs t)[i] = 32 := by
      apply UInt8.toNat_inj.1
      simpa using h3
    rw [← this]
    exact List.getElem_mem hl
/-- Its parts. -/
theorem enc_take (t : Str) (r : List Str) : (bs (encst (t :: r))).take (encst r).size = bs (encst r) := by
  rw [bs_enc, size_bs]
  simp
theorem enc_drop (t : Str) (r : List Str) : (bs (encst (t :: r))).drop ((encst r).size + 1) = bs t := by
  rw [bs_enc, size_bs, show bs (encst r) ++ 32 :: bs t = (bs (encst r) ++ [32]) ++ bs t by simp]
  exact List.drop_left' (by simp)

set_option maxHeartbeats 1000000 in
theorem c_LastIndex (s : Str) (w : World) (hs : s.size ≤ 140737488351232) :
    Calls Try.prog 87 #[.string s, .string sp] w fun e w' => e = .returned (.int .i64 (lastB s 32 s.size)) ∧ w = w' := by
  go_enter Try.func87, Try.ntmps87
  go_wp2_with fail
  refine (c_LastByte s 32 w hs (by omega)).mono ?_
  rintro e w' ⟨rfl, rfl⟩
  go_wp2_with fail
  go_ret
  exact ⟨rfl, rfl⟩
end Go.Proofs.Ytchhjldopecliaa
namespace Go.Proofs.Ytchhjldopecliaa
open Go.RowKit

abbrev StK := Str × Str × Int × Int
def encW (x : StK) : Value := .agg #[.string x.1, .string x.2.1, .int .i64 x.2.2.1, .int .i64 x.2.2.2]
theorem keyW : KeyOK Try.prog 106 encW := keyOK_ssii Try.underlying106 Try.underlying9 Try.underlying9 Try.underlying3 Try.underlying3 (by decide) (by decide) (by decide) (by decide) rfl rfl rfl rfl (by kernel_rfl)
theorem zero_int (w : World) : (zeroValue 3).run Try.prog w = .ok (.int .i64 0) w := by kernel_rfl
/-- The map of what is known: each entry is right. -/
def Memo (ps : List Pc) (w : World) (b : Nat) : Prop := ∃ kvs, MapK encW w b kvs ∧ ∀ s t o n v, getK (s, t, o, n) kvs = some v → ∃ (rest : List Str) (m : Nat), s = encst rest ∧ (∀ x ∈ rest, NoSp x) ∧ n = (m : Int) ∧ v = .int .i64 (wst ps m t rest o)
theorem Memo.kept {ps : List Pc} {w w' : World} {b : Nat} (h : Memo ps w b) {row : Option Nat} (hg : w.grownBy w' row) (hne : some b ≠ row) : Memo ps w' b := by
  obtain ⟨kvs, h1, h2⟩ := h
  exact ⟨kvs, h1.kept hg hne, h2⟩
theorem Memo.look {ps : List Pc} {w : World} {b : Nat} (h : Memo ps w b) (rest : List Str) (hr : ∀ x ∈ rest, NoSp x) (t : Str) (o : Int) (m : Nat) :
    ∃ (v : Int) (q : Bool), (Instr.lookup 103 (.map (some b)) (.agg #[.string (encst rest), .string t, .int .i64 o, .int .i64 (m : Int)]) true).run Try.prog w = .ok (.tuple #[.int .i64 v, .bool q]) w ∧ (q = true → v = wst ps m t rest o) ∧ (q = false → v = 0) := by
  obtain ⟨kvs, h1, h2⟩ := h
  have hl := h1.lookup keyW Try.underlying103 (zero_int w) (encst rest, t, o, (m : Int)) true
  rw [if_pos rfl] at hl
  cases hg : getK (encst rest, t, o, (m : Int)) kvs with
  | none =>
    rw [hg] at hl
    exact ⟨0, false, hl, (fun h => by cases h), fun _ => rfl⟩
  | some v =>
    rw [hg] at hl
    obtain ⟨rest', m', e1, e2, e3, e4⟩ := h2 _ _ _ _ _ hg
    have e5 := enc_inj e1 hr e2
    have e6 : m = m' := by omega
    subst e5 e6 e4
    exact ⟨_, true, hl, fun _ => rfl, (fun h => by cases h)⟩
theorem Memo.add {ps : List Pc} {w : World} {b : Nat} (h : Memo ps w b) (rest : List Str) (hr : ∀ x ∈ rest, NoSp x) (t : Str) (o : Int) (m : Nat) :
    ∃ w', (Instr.mapUpdate 103 (.map (some b)) (.agg #[.string (encst rest), .string t, .int .i64 o, .int .i64 (m : Int)]) (.int .i64 (wst ps m t rest o))).run Try.prog w = .ok () w' ∧ Memo ps w' b ∧ w.grownBy w' (some b) := by
  obtain ⟨kvs, h1, h2⟩ := h
  obtain ⟨w', r1, r2, r3, _⟩ := h1.update (P := Try.prog) keyW Try.underlying103 (encst rest, t, o, (m : Int)) (.int .i64 (wst ps m t rest o))
  refine ⟨w', r1, ⟨_, r2, fun s' t' o' n' v hv => ?_⟩, r3⟩
  rw [getK_setK] at hv
  by_cases e : (s', t', o', n') = (encst rest, t, o, (m : Int))
  · rw [if_pos e] at hv
    injection hv with hv
    simp only [Prod.mk.injEq] at e
    obtain ⟨rfl, rfl, rfl, rfl⟩ := e
    exact ⟨rest, m, rfl, hr, rfl, hv.symm⟩
  · rw [if_neg e] at hv
    exact h2 _ _ _ _ _ hv
/-- What the inner functions find in memory. -/
structure WsE (ps : List Pc) (w0 w : World) (bk ba bf bm bp : Nat) : Prop where
  c1 : w.cell? ⟨bk, 0, none⟩ = some (.map (some bm))
  c2 : w.cell? ⟨ba, 0, none⟩ = some (.map (some bp))
  c3 : w.cell? ⟨bf, 0, none⟩ = some (.func (.func 83) #[] #[ptr bk, ptr ba, ptr bf])
  bel : Below w0.heap.size w0 w
  lo : w0.heap.size ≤ bm
  n1 : bk ≠ bm
  n2 : ba ≠ bm
  n3 : bf ≠ bm
  l1 : w0.heap.size ≤ bk
  l2 : w0.heap.size ≤ ba
  l3 : w0.heap.size ≤ bf
  memo : Memo ps w bm
section
variable {ps : List Pc} {w0 w w' : World} {bk ba bf bm bp : Nat}
theorem WsE.grown (h : WsE ps w0 w bk ba bf bm bp) (hg : w.grownBy w' (some bm)) (hm : Memo ps w' bm) : WsE ps w0 w' bk ba bf bm bp :=
  ⟨hg.cell h.c1 (fun e => h.n1 (by injection e)), hg.cell h.c2 (fun e => h.n2 (by injection e)), hg.cell h.c3 (fun e => h.n3 (by injection e)), h.bel.grown hg h.bel.size (fun q hq => by injection hq with hq; have := h.lo; omega), h.lo, h.n1, h.n2, h.n3, h.l1, h.l2, h.l3, hm⟩
theorem WsE.below (h : WsE ps w0 w bk ba bf bm bp) (hb : Below w.heap.size w w') : WsE ps w0 w' bk ba bf bm bp := by
  have hg := below_gb hb (some bm)
  obtain ⟨kvs, h1, h2⟩ := h.memo
  exact h.grown hg ⟨kvs, h1.below hb, h2⟩
/-- Another block turns. -/
theorem WsE.other (h : WsE ps w0 w bk ba bf bm bp) {r : Nat} (hg : w.grownBy w' (some r)) (hr : w0.heap.size ≤ r ∧ r ≠ bk ∧ r ≠ ba ∧ r ≠ bf ∧ r ≠ bm) : WsE ps w0 w' bk ba bf bm bp :=
  ⟨hg.cell h.c1 (fun e => hr.2.1 (by injection e with e; exact e.symm)), hg.cell h.c2 (fun e => hr.2.2.1 (by injection e with e; exact e.symm)), hg.cell h.c3 (fun e => hr.2.2.2.1 (by injection e with e; exact e.symm)), h.bel.grown hg h.bel.size (fun q hq => by injection hq with hq; omega), h.lo, h.n1, h.n2, h.n3, h.l1, h.l2, h.l3, h.memo.kept hg (fun e => hr.2.2.2.2 (by injection e with e; exact e.symm))⟩
end
/-- The worst walk with n steps left is as the law says, in whatever world. -/
def WsAt (ps : List Pc) (w0 : World) (bk ba bf bm bp n : Nat) : Prop := ∀ (w : World) (top : Str) (rest : List Str) (o : Int), WsE ps w0 w bk ba bf bm bp → (∃ p, fnd top ps = some p) → (∀ x ∈ rest, ∃ p, fnd x ps = some p) → rest.length + n ≤ 12 →
  Calls Try.prog 83 #[.agg #[.string (encst rest), .string top, .int .i64 o, .int .i64 (n : Int)], ptr bk, ptr ba, ptr bf] w fun e w' => e = .returned (.int .i64 (wst ps n top rest o)) ∧ WsE ps w0 w' bk ba bf bm bp ∧ w.grownBy w' (some bm)

/-- A world of which two old blocks may have turned. -/
structure Tw (bm bo : Nat) (w w' : World) : Prop where
  os : w'.os = w.os
  tape : w'.tape = w.tape
  output : w'.output = w.output
  size : w.heap.size ≤ w'.heap.size
  block : ∀ k, k < w.heap.size → k ≠ bm → k ≠ bo → w'.heap[k]? = w.heap[k]?
theorem Tw.trans {bm bo : Nat} {w w1 w2 : World} (h : Tw bm bo w w1) (k : Tw bm bo w1 w2) : Tw bm bo w w2 :=
  ⟨k.os.trans h.os, k.tape.trans h.tape, k.output.trans h.output, Nat.le_trans h.size k.size, fun i hi h1 h2 => (k.block i (Nat.lt_of_lt_of_le hi h.size) h1 h2).trans (h.block i hi h1 h2)⟩
theorem Tw.of {bm bo : Nat} {w w1 : World} {row : Option Nat} (h : w.grownBy w1 row) (hr : ∀ r, row = some r → r = bm ∨ r = bo ∨ w.heap.size ≤ r) : Tw bm bo w w1 :=
  ⟨h.os, h.tape, h.output, h.size, fun i hi h1 h2 => h.block i hi (fun e => by rcases hr i e.symm with q | q | q; exact h1 q; exact h2 q; omega)⟩
theorem Tw.refl (bm bo : Nat) (w : World) : Tw bm bo w w := ⟨rfl, rfl, rfl, Nat.le_refl _, fun _ _ _ _ => rfl⟩
theorem Tw.cell {bm bo : Nat} {w w1 : World} (h : Tw bm bo w w1) {i j : Nat} {v : Value} (hc : w.cell? ⟨i, j, none⟩ = some v) (h1 : i ≠ bm) (h2 : i ≠ bo) : w1.cell? ⟨i, j, none⟩ = some v :=
  (World.cell?_of_block (h.block i (World.block_lt_of_cell? w _ hc) h1 h2)).trans hc
/-- What two regions of a tried step read. -/
abbrev TrA (W : World) (b4 b5 b6 : Nat) (n o' : Int) : Prop :=
  W.cell? ⟨b4, 3, none⟩ = some (.int .i64 n) ∧ W.cell? ⟨b6, 0, none⟩ = some (.int .i64 o') ∧ (W.cell? ⟨b5, 2, none⟩).isSome = true ∧ (W.cell? ⟨b5, 3, none⟩).isSome = true ∧ W.frozen? ⟨b5, 2, none⟩ = false ∧ W.frozen? ⟨b5, 3, none⟩ = false
theorem TrA.drew {W : World} {b4 b5 b6 : Nat} {n o' : Int} (h : TrA W b4 b5 b6 n o') : TrA W.drew b4 b5 b6 n o' := h

/-- What the last region of a tried step reads. -/
abbrev TrB (W : World) (bo b5 b6 bf : Nat) (x l o' n : Int) (s p : Str) (f : Value) : Prop :=
  W.cell? ⟨bo, 0, none⟩ = some (.int .i64 x) ∧ W.frozen? ⟨bo, 0, none⟩ = false ∧ W.cell? ⟨b6, 1, none⟩ = some (.int .i64 l) ∧ W.cell? ⟨bf, 0, none⟩ = some f ∧
    W.cell? ⟨b5, 0, none⟩ = some (.string s) ∧ W.cell? ⟨b5, 1, none⟩ = some (.string p) ∧ W.cell? ⟨b5, 2, none⟩ = some (.int .i64 o') ∧ W.cell? ⟨b5, 3, none⟩ = some (.int .i64 n)
theorem TrB.drew {W : World} {bo b5 b6 bf : Nat} {x l o' n : Int} {s p : Str} {f : Value} (h : TrB W bo b5 b6 bf x l o' n s p f) : TrB W.drew bo b5 b6 bf x l o' n s p f := h
theorem TrB.grown {W W' : World} {bo b5 b6 bf r : Nat} {x l o' n : Int} {s p : Str} {f : Value} (h : TrB W bo b5 b6 bf x l o' n s p f) (hg : W.grownBy W' (some r)) (h1 : bo ≠ r) (h2 : b5 ≠ r) (h3 : b6 ≠ r) (h4 : bf ≠ r) : TrB W' bo b5 b6 bf x l o' n s p f := by
  obtain ⟨a1, a2, a3, a4, a5, a6, a7, a8⟩ := h
  have k : ∀ {i j : Nat} {v : Value}, i ≠ r → W.cell? ⟨i, j, none⟩ = some v → W'.cell? ⟨i, j, none⟩ = some v := fun hne h => hg.cell h (fun e => hne (by injection e))
  exact ⟨k h1 a1, (World.frozen?_of_block (hg.block bo (World.block_lt_of_cell? W _ a1) (fun e => h1 (by injection e)))).trans a2, k h3 a3, k h4 a4, k h2 a5, k h2 a6, k h2 a7, k h2 a8⟩
theorem WsE.drew {ps : List Pc} {w0 w : World} {bk ba bf bm bp : Nat} (h : WsE ps w0 w bk ba bf bm bp) : WsE ps w0 w.drew bk ba bf bm bp :=
  h.below ⟨rfl, rfl, rfl, Nat.le_refl _, fun _ _ => rfl⟩
theorem Memo.lt {ps : List Pc} {w : World} {b : Nat} (h : Memo ps w b) : b < w.heap.size := by
  obtain ⟨_, h1, _⟩ := h
  exact h1.lt

set_option maxRecDepth 100000 in
set_option maxHeartbeats 4000000 in
theorem c_try (ps : List Pc) (w0 : World) (bk ba bf bm bp n : Nat) (IH : WsAt ps w0 bk ba bf bm bp n) (hM : MapP w0 bp ps) (b4 bo : Nat) (o x : Int) (p : Str) (rest : List Str) (w : World) (hE : WsE ps w0 w bk ba bf bm bp)
    (hp : ∃ q, fnd p ps = some q) (hr : ∀ x ∈ rest, ∃ p, fnd x ps = some p) (hl : rest.length + n ≤ 12)
    (h2 : w.cell? ⟨b4, 2, none⟩ = some (.int .i64 o)) (h3 : w.cell? ⟨b4, 3, none⟩ = some (.int .i64 ((n : Int) + 1))) (hx : w.cell? ⟨bo, 0, none⟩ = some (.int .i64 x)) (hf : w.frozen? ⟨bo, 0, none⟩ = false) (hx0 : 0 ≤ x ∧ x ≤ 100)
    (ho : w0.heap.size ≤ bo ∧ bo ≠ bk ∧ bo ≠ ba ∧ bo ≠ bf ∧ bo ≠ bm ∧ bo ≠ b4) (hb4 : b4 ≠ bm) :
    Calls Try.prog 84 #[.agg #[.string (encst rest), .string p, .int .i64 0, .int .i64 0], ptr b4, ptr ba, ptr bo, ptr bf] w fun e w' => e = .returned (.tuple #[]) ∧ WsE ps w0 w' bk ba bf bm bp ∧
      w'.cell? ⟨bo, 0, none⟩ = some (.int .i64 (max x (stepV ps (wst ps n) o p rest))) ∧ w'.frozen? ⟨bo, 0, none⟩ = false ∧ Tw bm bo w w' := by
  have HE := Box.mk hE
  have HIH := Box.mk IH
  have HR := Box.mk hr
  obtain ⟨q, hq⟩ := hp
  obtain ⟨kvs, hk, hpv⟩ := hM
  obtain ⟨v, hv, A7, n7, c7, rfl, hvq⟩ := hpv.get_some hq
  have HLK := Box.mk (fun W (hW : Below w0.heap.size w0 W) => ((hk.below hW).look keyS Try.underlying57 (zero_proc W) hv).1)
  have hfd := field64_0 q.ov A7 n7 c7
  have HOV : Box (ovOf ps p = q.ov) := ⟨by unfold ovOf; rw [hq]; rfl⟩
  have HP := Box.mk hq
  clear hE IH hr hq hk hpv hv hvq
  go_enter Try.func84, Try.ntmps84
  go_upto_region 1 with fail
  have HE1 := Box.mk (HE.out.below (bel_alloc w (.cells #[.string (encst rest), .string p, .int .i64 0, .int .i64 0] 106)))
  have HB1 := Box.mk (bel_alloc w (.cells #[.string (encst rest), .string p, .int .i64 0, .int .i64 0] 106))
  have H5 : Box (CellsB (w.alloc (.cells #[.string (encst rest), .string p, .int .i64 0, .int .i64 0] 106)) w.heap.size [.string (encst rest), .string p, .int .i64 0, .int .i64 0] 106) := ⟨heap_alloc_new w _⟩
  have HS1 : Box ((w.alloc (.cells #[.string (encst rest), .string p, .int .i64 0, .int .i64 0] 106)).heap.size = w.heap.size + 1) := ⟨by simp⟩
  generalize w.alloc (.cells #[.string (encst rest), .string p, .int .i64 0, .int .i64 0] 106) = W1 at *
  have K3 := Box.mk h3
  have KX := Box.mk hx
  have KF := Box.mk hf
  have L4 : Box (b4 < w.heap.size) := ⟨World.block_lt_of_cell? w _ h2⟩
  have LO : Box (bo < w.heap.size) := ⟨World.block_lt_of_cell? w _ hx⟩
  have hfo : W1.frozen? ⟨bo, 0, none⟩ = false := (World.frozen?_of_block (HB1.out.block bo LO.out)).trans hf
  replace h2 := cellk HB1.out L4.out h2
  replace h3 := cellk HB1.out L4.out h3
  replace hx := cellk HB1.out LO.out hx
  have e2 := HE1.out.c2
  have e5 := H5.out.cell (j := 1) rfl
  have hlk := HLK.out W1 HE1.out.bel
  have CE := Box.mk (c_enter o 0 q.ov W1 (by omega))
  go_wp2_with fail
  refine CE.out.mono ?_
  rintro e W2 ⟨rfl, hb2⟩
  have hld := entR_loads (o, 0) q.ov
  have HSV : Box (∀ f, stepV ps f o p rest = (entR (o, 0) q.ov).2 + f p rest (entR (o, 0) q.ov).1) := ⟨fun f => by unfold stepV; rw [HOV.out]⟩
  have HE2 := Box.mk (HE1.out.below hb2)
  have H52 := Box.mk (H5.out.kept (below_gb hb2 none) (by simp))
  have HB2 := Box.mk (below_tr HB1.out HB1.out.size hb2)
  have HS2 : Box (w.heap.size + 1 ≤ W2.heap.size) := ⟨by rw [← HS1.out]; exact hb2.size⟩
  clear hb2 HE1 H5 HB1 HS1 h2 h3 hx hfo e2 e5 hlk CE HOV
  generalize (entR (o, 0) q.ov).1 = o' at *
  generalize (entR (o, 0) q.ov).2 = l at *
  go_upto_region 2 with fail
  have HE3 := Box.mk (HE2.out.below (bel_alloc W2 (.cells #[.int .i64 o', .int .i64 l] 61)))
  have HB3 := Box.mk (bel_alloc2 HB2.out (.cells #[.int .i64 o', .int .i64 l] 61))
  have H53 := Box.mk (H52.out.kept (below_gb (bel_alloc W2 (.cells #[.int .i64 o', .int .i64 l] 61)) none) (by simp))
  have H63 : Box (CellsB (W2.alloc (.cells #[.int .i64 o', .int .i64 l] 61)) W2.heap.size [.int .i64 o', .int .i64 l] 61) := ⟨heap_alloc_new W2 _⟩
  generalize W2.alloc (.cells #[.int .i64 o', .int .i64 l] 61) = W3 at *
  generalize W2.heap.size = b6 at *
  generalize hb5 : w.heap.size = b5 at *
  have HB5 := Box.mk hb5
  have k3 := cellk HB3.out L4.out K3.out
  obtain ⟨s1, g1⟩ := H53.out.set 2 (.int .i64 o')
  obtain ⟨s2, g2⟩ := s1.set 3 (.int .i64 (n : Int))
  have n4 : b4 ≠ b5 := by have := L4.out; omega
  have n6 : b6 ≠ b5 := by have := HS2.out; omega
  have gb : ∀ {W W' : World} {i j : Nat} {v : Value}, W.grownBy W' (some b5) → i ≠ b5 → W.cell? ⟨i, j, none⟩ = some v → W'.cell? ⟨i, j, none⟩ = some v := fun hg hne h => hg.cell h (fun e => hne (by injection e))
  have e6 := H63.out.cell (j := 0) rfl
  have T0 : Box (TrA W3 b4 b5 b6 ((n : Int) + 1) o') := ⟨k3, e6, by rw [H53.out.cell (j := 2) rfl]; rfl, by rw [H53.out.cell (j := 3) rfl]; rfl, H53.out.frozen _, H53.out.frozen _⟩
  have T1 : Box (TrA (W3.setCell ⟨b5, 2, none⟩ (.int .i64 o')) b4 b5 b6 ((n : Int) + 1) o') := ⟨gb g1 n4 k3, gb g1 n6 e6, by rw [s1.cell (j := 2) rfl]; rfl, by rw [s1.cell (j := 3) rfl]; rfl, s1.frozen _, s1.frozen _⟩
  have T2 : Box (TrA ((W3.setCell ⟨b5, 2, none⟩ (.int .i64 o')).setCell ⟨b5, 3, none⟩ (.int .i64 (n : Int))) b4 b5 b6 ((n : Int) + 1) o') := ⟨gb g2 n4 (gb g1 n4 k3), gb g2 n6 (gb g1 n6 e6), by rw [s2.cell (j := 2) rfl]; rfl, by rw [s2.cell (j := 3) rfl]; rfl, s2.frozen _, s2.frozen _⟩
  have G2 := Box.mk (g1.trans g2)
  have S2 := Box.mk s2
  have hw : IntKind.i64.wrap (n : Int) = (n : Int) := wrap_i64 (by omega) (by omega)
  have c20 := H53.out.cell (j := 2) rfl
  have c30 := H53.out.cell (j := 3) rfl
  have f20 := H53.out.frozen 2
  have f30 := H53.out.frozen 3
  clear s1 g1 s2 g2 n4 n6 gb e6 k3 hb5
  go_cut [] (fun wx => wx = ((W3.setCell ⟨b5, 2, none⟩ (.int .i64 o')).setCell ⟨b5, 3, none⟩ (.int .i64 (n : Int))).drew)
  case first =>
    go_region_held3 (fun W : World => W.cell? ⟨b4, 3, none⟩ = some (.int .i64 ((n : Int) + 1)) ∧ W.cell? ⟨b6, 0, none⟩ = some (.int .i64 o') ∧ (W.cell? ⟨b5, 2, none⟩).isSome = true ∧ (W.cell? ⟨b5, 3, none⟩).isSome = true ∧ W.frozen? ⟨b5, 2, none⟩ = false ∧ W.frozen? ⟨b5, 3, none⟩ = false)
      (with_reducible first | exact T0.out.drew | exact T1.out.drew | exact T2.out.drew) (fail)
    all_goals
      go_wp2_with fail
      go_meet
      rfl
  case rest =>
    subst hcut
    have hlk1 := World.block_lt_of_cell? w _ HE.out.c1
    have hlk2 := World.block_lt_of_cell? w _ HE.out.c2
    have hlk3 := World.block_lt_of_cell? w _ HE.out.c3
    have hlk4 := HE.out.memo.lt
    have hlk5 := HE.out.bel.size
    have hb5 := HB5.out
    simp only at hlk1 hlk2 hlk3
    have H0 : Box (bo ≠ b5 ∧ b5 ≠ bm ∧ b6 ≠ bm ∧ bo ≠ b6 ∧ bf ≠ b5 ∧ b6 ≠ b5) := ⟨by have := LO.out; have := HS2.out; omega⟩
    have HE4 := Box.mk ((HE3.out.other G2.out (by omega)).drew)
    have T4 : Box (TrB ((W3.setCell ⟨b5, 2, none⟩ (.int .i64 o')).setCell ⟨b5, 3, none⟩ (.int .i64 (n : Int))).drew bo b5 b6 bf x l o' n (encst rest) p (.func (.func 83) #[] #[ptr bk, ptr ba, ptr bf])) := ⟨by
      have k : ∀ {i j : Nat} {v : Value}, i ≠ b5 → W3.cell? ⟨i, j, none⟩ = some v → ((W3.setCell ⟨b5, 2, none⟩ (.int .i64 o')).setCell ⟨b5, 3, none⟩ (.int .i64 (n : Int))).cell? ⟨i, j, none⟩ = some v := fun hne h => G2.out.cell h (fun e => hne (by injection e))
      refine ⟨k H0.out.1 (cellk HB3.out LO.out KX.out), ?_, k H0.out.2.2.2.2.2 (H63.out.cell rfl), HE4.out.c3, S2.out.cell rfl, S2.out.cell rfl, S2.out.cell rfl, S2.out.cell rfl⟩
      refine (World.frozen?_of_block ?_).trans KF.out
      exact (G2.out.block bo (by have := LO.out; have := HB3.out.size; have := HB5.out; omega) (fun e => H0.out.1 (by injection e))).trans (HB3.out.block bo LO.out)⟩
    have FR : Box (Tw bm bo w ((W3.setCell ⟨b5, 2, none⟩ (.int .i64 o')).setCell ⟨b5, 3, none⟩ (.int .i64 (n : Int))).drew) := ⟨⟨G2.out.os.trans HB3.out.os, G2.out.tape.trans HB3.out.tape, G2.out.output.trans HB3.out.output, Nat.le_trans HB3.out.size G2.out.size, fun i hi _ _ =>
      (G2.out.block i (Nat.lt_of_lt_of_le hi HB3.out.size) (fun e => by injection e with e; have := HB5.out; omega)).trans (HB3.out.block i (by rw [← HB5.out]; exact hi))⟩⟩
    clear hlk1 hlk2 hlk3 hlk4 hlk5 T0 T1 T2 c20 c30 f20 f30 hw G2 S2 H53 H63 HE3 HB3 HE2 H52 HB2 hf hb5
    generalize ((W3.setCell ⟨b5, 2, none⟩ (.int .i64 o')).setCell ⟨b5, 3, none⟩ (.int .i64 (n : Int))).drew = W4 at *
    have t1 := T4.out.1
    have t2 := T4.out.2.1
    have CI := Box.mk (HIH.out W4.drew p rest o' HE4.out.drew ⟨q, HP.out⟩ HR.out hl)
    go_upto_region 3 with fail
    clear t1 t2
    have T4d := Box.mk T4.out.drew
    have FRd : Box (Tw bm bo w W4.drew) := ⟨⟨FR.out.os, FR.out.tape, FR.out.output, FR.out.size, FR.out.block⟩⟩
    refine wp_region_head (hd := ?hdlr) (tl := ?tllr) (S := fun W => W.cell? ⟨bo, 0, none⟩ = some (.int .i64 x) ∧ W.frozen? ⟨bo, 0, none⟩ = false ∧ W.cell? ⟨b6, 1, none⟩ = some (.int .i64 l) ∧ W.cell? ⟨bf, 0, none⟩ = some (.func (.func 83) #[] #[ptr bk, ptr ba, ptr bf]) ∧ W.cell? ⟨b5, 0, none⟩ = some (.string (encst rest)) ∧ W.cell? ⟨b5, 1, none⟩ = some (.string p) ∧ W.cell? ⟨b5, 2, none⟩ = some (.int .i64 o') ∧ W.cell? ⟨b5, 3, none⟩ = some (.int .i64 (n : Int))) 8 (by kernel_rfl) (by kernel_rfl) ?hdr ?tlr T4.out.drew (fun hHeld => ?walkr)
    case hdr => simp only [List.take_succ_cons, List.take_zero] <;> rfl
    case tlr => simp only [List.drop_succ_cons, List.drop_zero] <;> rfl
    generalize W4.drew = Wd at *
    refine wpAnyH_take (i := 0) (oi := ?oir1) (v := ?vr1) ?hor1 (by kernel_rfl) (by kernel_rfl) (by kernel_rfl) ?hQr1 (Or.inl ⟨?hgr1, ?hyr1⟩) hHeld ?restr1
    case hor1 => simp only [List.getElem?_toArray, List.getElem?_cons_zero] <;> rfl
    case hQr1 => exact fun _ _ _ h => h
    case hgr1 => rfl
    case hyr1 =>
      intro w hSw
      obtain ⟨a1, a2, a3, a4, a5, a6, a7, a8⟩ := hSw
      go_simp <;> with_reducible rfl
    try simp only [Act.put, List.setIfInBounds_toArray, List.set_cons_zero, List.set_cons_succ]
    refine wpAnyH_take (i := 1) (oi := ?oir2) (v := ?vr2) ?hor2 (by kernel_rfl) (by kernel_rfl) (by kernel_rfl) ?hQr2 (Or.inl ⟨?hgr2, ?hyr2⟩) hHeld ?restr2
    case hor2 => simp only [List.getElem?_toArray, List.getElem?_cons_succ, List.getElem?_cons_zero] <;> rfl
    case hQr2 => exact fun _ _ _ h => h
    case hgr2 => rfl
    case hyr2 =>
      intro w hSw
      obtain ⟨a1, a2, a3, a4, a5, a6, a7, a8⟩ := hSw
      go_simp <;> with_reducible rfl
    try simp only [Act.put, List.setIfInBounds_toArray, List.set_cons_zero, List.set_cons_succ]
    refine wpAnyH_take (i := 2) (oi := ?oir3) (v := ?vr3) ?hor3 (by kernel_rfl) (by kernel_rfl) (by kernel_rfl) ?hQr3 (Or.inl ⟨?hgr3, ?hyr3⟩) hHeld ?restr3
    case hor3 => simp only [List.getElem?_toArray, List.getElem?_cons_succ, List.getElem?_cons_zero] <;> rfl
    case hQr3 => exact fun _ _ _ h => h
    case hgr3 => rfl
    case hyr3 =>
      intro w hSw
      obtain ⟨a1, a2, a3, a4, a5, a6, a7, a8⟩ := hSw
      go_simp <;> with_reducible rfl
    try simp only [Act.put, List.setIfInBounds_toArray, List.set_cons_zero, List.set_cons_succ]
    refine wpAnyH_take (i := 3) (oi := ?oir4) (v := ?vr4) ?hor4 (by kernel_rfl) (by kernel_rfl) (by kernel_rfl) ?hQr4 (Or.inl ⟨?hgr4, ?hyr4⟩) hHeld ?restr4
    case hor4 => simp only [List.getElem?_toArray, List.getElem?_cons_succ, List.getElem?_cons_zero] <;> rfl
    case hQr4 => exact fun _ _ _ h => h
    case hgr4 => rfl
    case hyr4 =>
      intro w hSw
      obtain ⟨a1, a2, a3, a4, a5, a6, a7, a8⟩ := hSw
      go_simp <;> with_reducible rfl
    try simp only [Act.put, List.setIfInBounds_toArray, List.set_cons_zero, List.set_cons_succ]
    refine wpAnyH_take (i := 4) (oi := ?oir5) (v := ?vr5) ?hor5 (by kernel_rfl) (by kernel_rfl) (by kernel_rfl) ?hQr5 (Or.inl ⟨?hgr5, ?hyr5⟩) hHeld ?restr5
    case hor5 => simp only [List.getElem?_toArray, List.getElem?_cons_succ, List.getElem?_cons_zero] <;> rfl
    case hQr5 => exact fun _ _ _ h => h
    case hgr5 => rfl
    case hyr5 =>
      intro w hSw
      obtain ⟨a1, a2, a3, a4, a5, a6, a7, a8⟩ := hSw
      go_simp <;> with_reducible rfl
    try simp only [Act.put, List.setIfInBounds_toArray, List.set_cons_zero, List.set_cons_succ]
    refine wpAnyH_ready (rs := [5]) (by kernel_rfl) (by simp) ?_
    refine AllReadyH.cons (o := ?or6) ?hor6 (fun K hK => ?stepr6) AllReadyH.nil
    case hor6 => simp only [List.getElem?_toArray, List.getElem?_cons_succ, List.getElem?_cons_zero] <;> rfl
    go_simp
    refine CI.out.mono ?_
    rintro e W5 ⟨rfl, hE5, hg5⟩
    have HE5 := Box.mk hE5
    have HG5 := Box.mk hg5
    have T5 := Box.mk (T4d.out.grown hg5 ho.2.2.2.2.1 H0.out.2.1 H0.out.2.2.1 HE4.out.n3)
    clear hE5 hg5
    refine hK.out _ _ (T5.out) (fun hHeld => ?_)
    clear hK K
    try simp only [Act.put, List.setIfInBounds_toArray, List.set_cons_zero, List.set_cons_succ]
    refine wpAnyH_take (i := 6) (oi := ?oir7) (v := ?vr7) ?hor7 (by kernel_rfl) (by kernel_rfl) (by kernel_rfl) ?hQr7 (Or.inl ⟨?hgr7, ?hyr7⟩) hHeld ?restr7
    case hor7 => simp only [List.getElem?_toArray, List.getElem?_cons_succ, List.getElem?_cons_zero] <;> rfl
    case hQr7 => exact fun _ _ _ h => h
    case hgr7 => rfl
    case hyr7 =>
      intro w hSw
      obtain ⟨a1, a2, a3, a4, a5, a6, a7, a8⟩ := hSw
      go_simp <;> with_reducible rfl
    try simp only [Act.put, List.setIfInBounds_toArray, List.set_cons_zero, List.set_cons_succ]
    refine wpAnyH_take (i := 7) (oi := ?oir8) (v := ?vr8) ?hor8 (by kernel_rfl) (by kernel_rfl) (by kernel_rfl) ?hQr8 (Or.inl ⟨?hgr8, ?hyr8⟩) hHeld ?restr8
    case hor8 => simp only [List.getElem?_toArray, List.getElem?_cons_succ, List.getElem?_cons_zero] <;> rfl
    case hQr8 => exact fun _ _ _ h => h
    case hgr8 => rfl
    case hyr8 =>
      intro w hSw
      obtain ⟨a1, a2, a3, a4, a5, a6, a7, a8⟩ := hSw
      go_simp <;> with_reducible rfl
    try simp only [Act.put, List.setIfInBounds_toArray, List.set_cons_zero, List.set_cons_succ]
    refine wpAnyH_done (by kernel_rfl) ?_ _
    simp only [headQ]
    have t51 := T5.out.1
    have t52 := T5.out.2.1
    have hg0 := wst_ge ps n p rest o'
    have hg1 := wst_le ps n p rest o'
    have hld' : 0 ≤ l ∧ l ≤ 1 := ⟨hld.1, by have := hld.2; simpa using this⟩
    have hwr : IntKind.i64.wrap (l + wst ps n p rest o') = l + wst ps n p rest o' := wrap_i64 (by omega) (by omega)
    rw [hwr]
    have HV : Box (max x (stepV ps (wst ps n) o p rest) = max x (l + wst ps n p rest o')) := ⟨by rw [HSV.out]⟩
    generalize l + wst ps n p rest o' = y at *
    have HX5 := Box.mk t51
    have HF5 := Box.mk t52
    clear hg0 hg1 hwr hld
    go_wp2_with fail
    go_end0
    have hs := st_cell W5 bo 0 (.int .i64 (max x y))
    refine ⟨rfl, HE5.out.other hs ⟨ho.1, ho.2.1, ho.2.2.1, ho.2.2.2.1, ho.2.2.2.2.1⟩, ?_, ?_, ?_⟩
    · rw [HV.out]
      exact World.cell?_setCell_same _ _ _ HX5.out
    · simpa using HF5.out
    · exact (FRd.out.trans (Tw.of HG5.out (fun r e => by injection e with e; exact .inl e.symm))).trans (Tw.of hs (fun r e => by injection e with e; exact .inr (.inl e.symm)))
end Go.Proofs.Ytchhjldopecliaa
namespace Go.Proofs.Ytchhjldopecliaa
open Go.RowKit

/-- What is known of the procedures. -/
structure WsP (ps : List Pc) : Prop where
  there : AllThere ps
  nosp : ∀ p ∈ ps, NoSp p.nm
  size : ∀ p ∈ ps, p.nm.size ≤ 10
  calls : ∀ p ∈ ps, p.cl.length ≤ 100
theorem WsP.name {ps : List Pc} (h : WsP ps) {x : Str} (hx : ∃ p, fnd x ps = some p) : NoSp x ∧ x.size ≤ 10 := by
  obtain ⟨p, hp⟩ := hx
  obtain ⟨h1, h2⟩ := fnd_some hp
  rw [← h2]
  exact ⟨h.nosp p h1, h.size p h1⟩
theorem enc_len {ps : List Pc} (h : WsP ps) : ∀ {r : List Str}, (∀ x ∈ r, ∃ p, fnd x ps = some p) → (encst r).size ≤ 11 * r.length
  | [], _ => Nat.zero_le _
  | t :: r, hr => by
    have h1 := enc_len h (r := r) (fun x hx => hr x (List.mem_cons_of_mem _ hx))
    have h2 := (h.name (hr t (List.mem_cons_self ..))).2
    rw [enc_size, List.length_cons]
    omega

theorem bs_extract (s : Str) (a b : Nat) : bs (s.extract a b) = ((bs s).take b).drop a := by
  unfold bs
  rw [ByteArray.data_extract, Array.toList_extract, List.extract_eq_take_drop, List.drop_take]
theorem slice_lo (r : List Str) (t : Str) (W : World) : (Instr.slice 9 (.string (encst (t :: r))) none (some (.int .i64 ((encst r).size : Int))) none).run Try.prog W = .ok (.string (encst r)) W := by
  have h := run_slice_string_h (P := Try.prog) (w := W) (s := encst (t :: r)) (t := 9) Try.underlying9 .i64 ((encst r).size : Int) (by omega) (by rw [enc_size]; omega)
  have e : (encst (t :: r)).extract 0 ((encst r).size : Int).toNat = encst r := by
    apply bs_inj
    rw [bs_extract, Int.toNat_natCast, List.drop_zero, enc_take]
  rw [h, e]
theorem slice_hi (r : List Str) (t : Str) (W : World) : (Instr.slice 9 (.string (encst (t :: r))) (some (.int .i64 ((encst r).size + 1 : Int))) none none).run Try.prog W = .ok (.string t) W := by
  have h := run_slice_string_l (P := Try.prog) (w := W) (s := encst (t :: r)) (t := 9) Try.underlying9 .i64 ((encst r).size + 1 : Int) (by omega) (by rw [enc_size]; omega)
  have e : (encst (t :: r)).extract ((encst r).size + 1 : Int).toNat (encst (t :: r)).size = t := by
    apply bs_inj
    rw [bs_extract, List.take_of_length_le (by rw [← size_bs]; exact Nat.le_refl _), show ((encst r).size + 1 : Int).toNat = (encst r).size + 1 by omega, enc_drop]
  rw [h, e]
theorem Memo.nocell {ps : List Pc} {w : World} {b j : Nat} (h : Memo ps w b) : w.cell? ⟨b, j, none⟩ = none := by
  obtain ⟨kvs, ⟨es, cl, hb, _⟩, _⟩ := h
  simp [World.cell?, hb]
theorem one_cell {w : World} {b j : Nat} {x : Int} {s : Str} {t : TypeId} (h : CellsB w b [.int .i64 x] t) : w.cell? ⟨b, j, none⟩ ≠ some (.string s) := by
  unfold CellsB at h
  cases j <;> simp [World.cell?, h]
/-- The greatest over the first calls. -/
def foldK (ps : List Pc) (m : Nat) (o : Int) (top : Str) (rest : List Str) (L : List Str) (k : Nat) : Int := ((L.take k).map (fun q => stepV ps (wst ps m) o q (top :: rest))).foldl max 0
theorem stepV_bd (ps : List Pc) (m : Nat) (o : Int) (q : Str) (r : List Str) : 0 ≤ stepV ps (wst ps m) o q r ∧ stepV ps (wst ps m) o q r ≤ m + 1 := by
  have h1 := wst_ge ps m q r (entR (o, 0) (ovOf ps q)).1
  have h2 := wst_le ps m q r (entR (o, 0) (ovOf ps q)).1
  have h3 := entR_loads (o, 0) (ovOf ps q)
  simp only at h3
  unfold stepV
  omega
theorem foldK_bd (ps : List Pc) (m : Nat) (o : Int) (top : Str) (rest : List Str) (L : List Str) (k : Nat) : 0 ≤ foldK ps m o top rest L k ∧ foldK ps m o top rest L k ≤ m + 1 := by
  refine ⟨(foldM_ge _ 0).1, foldM_le _ _ _ (by omega) (fun x hx => ?_)⟩
  obtain ⟨q, _, rfl⟩ := List.mem_map.1 hx
  exact (stepV_bd ps m o q _).2
theorem foldK_succ (ps : List Pc) (m : Nat) (o : Int) (top : Str) (rest : List Str) {L : List Str} {k : Nat} {q : Str} (h : L[k]? = some q) : foldK ps m o top rest L (k + 1) = max (foldK ps m o top rest L k) (stepV ps (wst ps m) o q (top :: rest)) := by
  unfold foldK
  rw [List.take_add_one, h]
  simp

set_option maxRecDepth 100000 in
set_option maxHeartbeats 4000000 in
theorem c_worst1 (ps : List Pc) (w0 : World) (bk ba bf bm bp : Nat) (hM : MapP w0 bp ps) (hP : WsP ps) : ∀ n, WsAt ps w0 bk ba bf bm bp n := by
  intro n
  induction n with
  | zero =>
    intro w top rest o hE hx hr hl
    rw [show ((0 : Nat) : Int) = 0 from rfl]
    have HW : Box (wst ps 0 top rest o = 0) := ⟨rfl⟩
    have HE0 := Box.mk hE
    have HNS : Box (∀ x ∈ rest, NoSp x) := ⟨fun x hx => (hP.name (hr x hx)).1⟩
    clear hE hr hx
    go_enter Try.func83, Try.ntmps83
    go_upto_region 1 with fail
    have HE := Box.mk (HE0.out.below (bel_alloc w (.cells #[.string (encst rest), .string top, .int .i64 o, .int .i64 0] 106)))
    have HG := Box.mk (below_gb (bel_alloc w (.cells #[.string (encst rest), .string top, .int .i64 o, .int .i64 0] 106)) (some bm))
    have H4 : Box (CellsB (w.alloc (.cells #[.string (encst rest), .string top, .int .i64 o, .int .i64 0] 106)) w.heap.size [.string (encst rest), .string top, .int .i64 o, .int .i64 0] 106) := ⟨heap_alloc_new w _⟩
    generalize w.alloc (.cells #[.string (encst rest), .string top, .int .i64 o, .int .i64 0] 106) = W1 at *
    obtain ⟨v, q, hlk, hq1, hq0⟩ := HE.out.memo.look rest HNS.out top o 0
    have hv : v = 0 := by
      cases q with
      | true => rw [hq1 rfl]; rfl
      | false => exact hq0 rfl
    subst hv
    rw [show ((0 : Nat) : Int) = 0 from rfl] at hlk
    have e1 := HE.out.c1
    have c0 := H4.out.cell (j := 0) rfl
    have c1 := H4.out.cell (j := 1) rfl
    have c2 := H4.out.cell (j := 2) rfl
    have c3 := H4.out.cell (j := 3) rfl
    clear hq1 hq0
    cases q
    all_goals
      go_wp2_with fail
      go_ret
      exact ⟨by rw [HW.out]; rfl, HE.out, HG.out⟩
  | succ m ih =>
    intro w top rest o hE hx hr hl
    rw [show ((m + 1 : Nat) : Int) = (m : Int) + 1 from rfl]
    have HE0 := Box.mk hE
    have HNS : Box (∀ x ∈ rest, NoSp x) := ⟨fun x hx => (hP.name (hr x hx)).1⟩
    have HR := Box.mk hr
    have HX := Box.mk hx
    have IH := Box.mk ih
    have HPP := Box.mk hP
    have HMM := Box.mk hM
    have hl12 : m ≤ 12 := by omega
    clear hE hr hx ih hP hM
    go_enter Try.func83, Try.ntmps83
    go_upto_region 1 with fail
    have HE := Box.mk (HE0.out.below (bel_alloc w (.cells #[.string (encst rest), .string top, .int .i64 o, .int .i64 ((m : Int) + 1)] 106)))
    have HB1 := Box.mk (bel_alloc w (.cells #[.string (encst rest), .string top, .int .i64 o, .int .i64 ((m : Int) + 1)] 106))
    have H4 : Box (CellsB (w.alloc (.cells #[.string (encst rest), .string top, .int .i64 o, .int .i64 ((m : Int) + 1)] 106)) w.heap.size [.string (encst rest), .string top, .int .i64 o, .int .i64 ((m : Int) + 1)] 106) := ⟨heap_alloc_new w _⟩
    have HS1 : Box ((w.alloc (.cells #[.string (encst rest), .string top, .int .i64 o, .int .i64 ((m : Int) + 1)] 106)).heap.size = w.heap.size + 1) := ⟨by simp⟩
    generalize w.alloc (.cells #[.string (encst rest), .string top, .int .i64 o, .int .i64 ((m : Int) + 1)] 106) = W1 at *
    obtain ⟨v, q, hlk, hq1, hq0⟩ := HE.out.memo.look rest HNS.out top o (m + 1)
    rw [show ((m + 1 : Nat) : Int) = (m : Int) + 1 from rfl] at hlk
    have e1 := HE.out.c1
    have c0 := H4.out.cell (j := 0) rfl
    have c1 := H4.out.cell (j := 1) rfl
    have c2 := H4.out.cell (j := 2) rfl
    have c3 := H4.out.cell (j := 3) rfl
    cases q with
    | true =>
      have HV := Box.mk (hq1 rfl)
      clear hq1 hq0
      go_wp2_with fail
      go_ret
      exact ⟨by rw [← HV.out]; rfl, HE.out, below_gb HB1.out _⟩
    | false =>
      obtain rfl := hq0 rfl
      clear hq1 hq0
      have hm0 : ((m : Int) + 1 == 0) = false := by rw [beq_eq_false_iff_ne]; omega
      go_upto_region 6 with fail
      have HE2 := Box.mk (HE.out.below (bel_alloc W1 (.cells #[.int .i64 0] 3)))
      have HB2 := Box.mk (bel_alloc2 HB1.out (.cells #[.int .i64 0] 3))
      have H42 := Box.mk (H4.out.kept (below_gb (bel_alloc W1 (.cells #[.int .i64 0] 3)) none) (by simp))
      have HO2 : Box (CellsB (W1.alloc (.cells #[.int .i64 0] 3)) W1.heap.size [.int .i64 0] 3) := ⟨heap_alloc_new W1 _⟩
      have HS2 : Box ((W1.alloc (.cells #[.int .i64 0] 3)).heap.size = w.heap.size + 2) := ⟨by simp [HS1.out]⟩
      generalize W1.alloc (.cells #[.int .i64 0] 3) = W2 at *
      rw [HS1.out] at HO2 ⊢
      clear HE H4 c0 c1 c2 c3 e1 hlk hm0
      obtain ⟨kvs, hk, hpv⟩ := HMM.out
      obtain ⟨pt, hpt⟩ := HX.out
      obtain ⟨v, hv, A7, n7, c7, rfl, hq⟩ := hpv.get_some hpt
      have hlk := ((hk.below HE2.out.bel).look keyS Try.underlying57 (zero_proc W2) hv).1
      have hfd := field64_1 pt.ov A7 n7 c7
      have HPT := Box.mk hpt
      have HQ := Box.mk (hq.below mono_str HE2.out.bel)
      have hn7 : n7 ≤ 100 := by have := HPP.out.calls pt (fnd_some hpt).1; rw [hq.len] at this; exact this
      have HCL : Box (clOf ps top = pt.cl) := ⟨clOf_fnd hpt⟩
      have e2 := HE2.out.c2
      have d1 := H42.out.cell (j := 1) rfl
      clear hk hpv hv hq hpt
      go_wp2_with fail
      refine (c_Values A7 n7 c7 W2).mono ?_
      rintro e W3 ⟨rfl, hw3⟩
      have HB3 : Box (Below W2.heap.size W2 W3) := ⟨hw3 ▸ bel_alloc _ _⟩
      have C := Box.mk (c_SortedValues A7 n7 c7 pt.cl W2 W3 HQ.out hw3 (by omega))
      clear hw3
      go_wp2_with fail
      refine C.out.mono ?_
      rintro e W4 ⟨v4, rfl, ho4, hb4⟩
      have HO4 := Box.mk ho4
      have HB4 := Box.mk (below_tr HB3.out HB3.out.size hb4)
      clear ho4 hb4 C
      have HCS : Box (∀ y ∈ pt.cl, y.size ≤ LIM) := ⟨fun y hy => by
        have := (HPP.out.name (HPP.out.there pt (fnd_some HPT.out).1 y hy)).2
        rw [LIM_eq]
        omega⟩
      go_wp2_with fail
      refine (c_Compact W3.heap.size v4 pt.cl W4 HO4.out HCS.out (by rw [HQ.out.len]; omega)).mono ?_
      rintro e W5 ⟨A5, c5, rfl, hs5, hg5⟩
      have HB5 := Box.mk (below_grown HB4.out HB3.out.size HB4.out.size HO4.out hg5)
      have HS5 := Box.mk hs5
      have HE5 := Box.mk (HE2.out.below HB5.out)
      have H45 := Box.mk (H42.out.kept (below_gb HB5.out none) (by simp))
      have HO5 := Box.mk (HO2.out.kept (below_gb HB5.out none) (by simp))
      have HBW := Box.mk (HB2.out.trans (HB5.out.mono (by have := HS2.out; omega)))
      have hN : (setS pt.cl).length ≤ 100 := by have := setS_length_le pt.cl; rw [HQ.out.len] at this; omega
      clear hs5 hg5 hlk hfd e2 d1 HO4 HB4 HB3 HB5 HE2 H42 HO2 HQ
      have HSET : Box (∀ y ∈ setS pt.cl, ∃ q, fnd y ps = some q) := ⟨fun y hy => HPP.out.there pt (fnd_some HPT.out).1 y (mem_setS.1 hy)⟩
      obtain ⟨N, hNN⟩ : ∃ N, N = (setS pt.cl).length := ⟨_, rfl⟩
      rw [← hNN] at HS5 hN ⊢
      have HNN := Box.mk hNN
      clear hNN
      go_wp2_with fail
      have HLT : Box (w0.heap.size ≤ w.heap.size ∧ bk < w.heap.size ∧ ba < w.heap.size ∧ bf < w.heap.size ∧ bm < w.heap.size ∧ w.heap.size + 2 ≤ W5.heap.size) := ⟨⟨HE0.out.bel.size, World.block_lt_of_cell? w _ HE0.out.c1, World.block_lt_of_cell? w _ HE0.out.c2, World.block_lt_of_cell? w _ HE0.out.c3, HE0.out.memo.lt, by have := HO5.out.lt; omega⟩⟩
      have HC0 := Box.mk (And.intro (HO5.out.cell (j := 0) rfl) (HO5.out.frozen 0))
      go_loopw [11, 36] (fun _ i wx => ∃ k : Nat, k ≤ N ∧ i = .int .i64 k ∧ Box (WsE ps w0 wx bk ba bf bm bp) ∧ Box (Tw bm (w.heap.size + 1) W5 wx) ∧ Box (wx.cell? ⟨w.heap.size + 1, 0, none⟩ = some (.int .i64 (foldK ps m o top rest (setS pt.cl) k)) ∧ wx.frozen? ⟨w.heap.size + 1, 0, none⟩ = false)) (fun _ i _ => N - (intOf i).toNat)
      case atStart => exact ⟨0, Nat.zero_le _, rfl, HE5, ⟨Tw.refl _ _ _⟩, HC0⟩
      case round =>
        clear HC0
        obtain ⟨k, hk, rfl, HEk, HTk, HCk⟩ := hrel
        have d0 := HTk.out.cell (H45.out.cell (j := 0) rfl) (by have := HLT.out; omega) (by omega)
        have d1 := HTk.out.cell (H45.out.cell (j := 1) rfl) (by have := HLT.out; omega) (by omega)
        by_cases hkl : k < N
        · obtain ⟨b6, o6, y, rfl, hb6, hx6, hs6, hc6⟩ := HS5.out.str_at k hkl
          have n1 : b6 ≠ bm := fun e => by rw [e, HE5.out.memo.nocell] at hc6; cases hc6
          have n2 : b6 ≠ w.heap.size + 1 := fun e => by rw [e] at hc6; exact one_cell HO5.out hc6
          replace hc6 := HTk.out.cell hc6 n1 n2
          have d2 := HTk.out.cell (H45.out.cell (j := 2) rfl) (by have := HLT.out; omega) (by omega)
          have d3 := HTk.out.cell (H45.out.cell (j := 3) rfl) (by have := HLT.out; omega) (by omega)
          have C := Box.mk (c_try ps w0 bk ba bf bm bp m IH.out HMM.out w.heap.size (w.heap.size + 1) o (foldK ps m o top rest (setS pt.cl) k) y (top :: rest) wr HEk.out (HSET.out y (List.mem_iff_getElem?.2 ⟨k, hx6⟩)) (fun x hx => by
            rcases List.mem_cons.1 hx with rfl | hx
            · exact HX.out
            · exact HR.out x hx) (by rw [List.length_cons]; omega) d2 d3 HCk.out.1 HCk.out.2 (by have := foldK_bd ps m o top rest (setS pt.cl) k; omega) (by have := HLT.out; omega) (by have := HLT.out; omega))
          have HFS := Box.mk (foldK_succ ps m o top rest hx6)
          clear hx6 hs6 hb6 n1 n2 d2 d3
          have hz1 : (encst rest).size ≤ 132 := by have := enc_len HPP.out HR.out; omega
          have hz2 : top.size ≤ 10 := (HPP.out.name HX.out).2
          go_wp2_with fail
          refine C.out.mono ?_
          rintro e w7 ⟨rfl, hE7, hx7, hf7, ht7⟩
          have HE7 := Box.mk hE7
          have HC7 := Box.mk (And.intro hx7 hf7)
          rw [← HFS.out] at HC7
          have HT7 := Box.mk (HTk.out.trans ht7)
          clear hE7 hx7 hf7 ht7 hc6 d0 d1 C hz1 hz2
          go_wp2_with fail
          go_roundw
          case rel => exact ⟨k + 1, by omega, by go_num, HE7, HT7, HC7⟩
          case measure => simp [intOf] <;> omega
        · obtain rfl : k = N := by omega
          have hz1 : (encst rest).size ≤ 132 := by have := enc_len HPP.out HR.out; omega
          have HFK : Box (foldK ps m o top rest (setS pt.cl) k = ((setS (clOf ps top)).map (fun q => stepV ps (wst ps m) o q (top :: rest))).foldl max 0) := ⟨by
            unfold foldK
            rw [List.take_of_length_le (by rw [HNN.out]; exact Nat.le_refl _), HCL.out]⟩
          have HFB := Box.mk (foldK_bd ps m o top rest (setS pt.cl) k)
          generalize foldK ps m o top rest (setS pt.cl) k = F at *
          go_wp2_with fail
          refine (c_LastIndex (encst rest) wr (by omega)).mono ?_
          rintro e _ ⟨rfl, rfl⟩
          cases rest with
          | nil =>
            rw [show lastB (encst []) 32 (encst []).size = -1 from rfl]
            have HWV : Box (wst ps (m + 1) top [] o = F) := ⟨by rw [wst, HFK.out]; simp [backV]⟩
            obtain ⟨W9, hup, hM9, hG9⟩ := HEk.out.memo.add [] (by simp) top o (m + 1)
            rw [HWV.out, show ((m + 1 : Nat) : Int) = (m : Int) + 1 from rfl] at hup
            have HE9 := Box.mk (HEk.out.grown hG9 hM9)
            have HT9 := Box.mk (HTk.out.trans (Tw.of hG9 (fun r e => by injection e with e; exact .inl e.symm)))
            have HX9 := Box.mk (hG9.cell HCk.out.1 (fun e => by injection e with e; have e : w.heap.size + 1 = bm := e; have := HLT.out; omega))
            have d2 := HTk.out.cell (H45.out.cell (j := 2) rfl) (by have := HLT.out; omega) (by omega)
            have d3 := HTk.out.cell (H45.out.cell (j := 3) rfl) (by have := HLT.out; omega) (by omega)
            have e1 := HEk.out.c1
            have x1 := HCk.out.1
            have x2 := HX9.out
            clear hM9 hG9
            go_wp2_with fail
            go_ret
            refine ⟨by rw [HWV.out]; rfl, HE9.out, ⟨HT9.out.os.trans HBW.out.os, HT9.out.tape.trans HBW.out.tape, HT9.out.output.trans HBW.out.output, Nat.le_trans HBW.out.size HT9.out.size, fun i hi hne => ?_⟩⟩
            exact (HT9.out.block i (Nat.lt_of_lt_of_le hi HBW.out.size) (fun e => hne (by rw [e])) (by omega)).trans (HBW.out.block i hi)
          | cons t r =>
            have hst : NoSp t := HNS.out t (List.mem_cons_self ..)
            rw [enc_last t r hst]
            have hz3 : (encst r).size ≤ 132 := by rw [enc_size] at hz1; omega
            have hz4 : (encst (t :: r)).size = (encst r).size + 1 + t.size := enc_size t r
            have hs1 := slice_lo r t
            have hs2 := slice_hi r t
            generalize hE : encst (t :: r) = E at *
            have HEE := Box.mk hE
            clear hE
            obtain ⟨z, hz⟩ : ∃ z, z = (encst r).size := ⟨_, rfl⟩
            rw [← hz] at hz3 hz4 hs1 hs2 ⊢
            have hw1 : IntKind.i64.wrap ((z : Int) + 1) = (z : Int) + 1 := wrap_i64 (by omega) (by omega)
            have HZ := Box.mk hz
            clear hz
            go_upto_region 13 with fail
            go_still_tail 11, (by kernel_rfl)
            go_wp2_with fail
            have d2 := HTk.out.cell (H45.out.cell (j := 2) rfl) (by have := HLT.out; omega) (by omega)
            have d3 := HTk.out.cell (H45.out.cell (j := 3) rfl) (by have := HLT.out; omega) (by omega)
            refine (c_try ps w0 bk ba bf bm bp m IH.out HMM.out w.heap.size (w.heap.size + 1) o F t r wr.drew HEk.out.drew (HR.out t (List.mem_cons_self ..)) (fun x hx => HR.out x (List.mem_cons_of_mem _ hx)) (by rw [List.length_cons] at hl; omega) d2 d3 HCk.out.1 HCk.out.2 (by have := HFB.out; omega) (by have := HLT.out; omega) (by have := HLT.out; omega)).mono ?_
            rintro e w7 ⟨rfl, hE7, hx7, hf7, ht7⟩
            have HWV : Box (wst ps (m + 1) top (t :: r) o = max F (stepV ps (wst ps m) o t r)) := ⟨by rw [wst, HFK.out]; simp [backV]⟩
            rw [← HWV.out] at hx7
            have ht8 : Tw bm (w.heap.size + 1) wr w7 := ⟨ht7.os, ht7.tape, ht7.output, ht7.size, ht7.block⟩
            have HT8 := Box.mk (HTk.out.trans ht8)
            have k0 := HT8.out.cell (H45.out.cell (j := 0) rfl) (by have := HLT.out; omega) (by omega)
            have k1 := HT8.out.cell (H45.out.cell (j := 1) rfl) (by have := HLT.out; omega) (by omega)
            have k2 := HT8.out.cell (H45.out.cell (j := 2) rfl) (by have := HLT.out; omega) (by omega)
            have k3 := HT8.out.cell (H45.out.cell (j := 3) rfl) (by have := HLT.out; omega) (by omega)
            obtain ⟨W9, hup, hM9, hG9⟩ := hE7.memo.add (t :: r) HNS.out top o (m + 1)
            rw [HEE.out, show ((m + 1 : Nat) : Int) = (m : Int) + 1 from rfl] at hup
            have HE9 := Box.mk (hE7.grown hG9 hM9)
            have HT9 := Box.mk (HT8.out.trans (Tw.of hG9 (fun r e => by injection e with e; exact .inl e.symm)))
            have HX9 := Box.mk (hG9.cell hx7 (fun e => by injection e with e; have e : w.heap.size + 1 = bm := e; have := HLT.out; omega))
            have e1 := hE7.c1
            have x2 := HX9.out
            clear hM9 hG9 hE7 hf7 ht7 ht8 d2 d3 hs1 hs2 hw1
            generalize hV : wst ps (m + 1) top (t :: r) o = V at *
            have HVV := Box.mk hV
            clear hV
            go_wp2_with fail
            go_ret
            refine ⟨by rw [HVV.out]; rfl, HE9.out, ⟨HT9.out.os.trans HBW.out.os, HT9.out.tape.trans HBW.out.tape, HT9.out.output.trans HBW.out.output, Nat.le_trans HBW.out.size HT9.out.size, fun i hi hne => ?_⟩⟩
            exact (HT9.out.block i (Nat.lt_of_lt_of_le hi HBW.out.size) (fun e => hne (by rw [e])) (by omega)).trans (HBW.out.block i hi)
end Go.Proofs.Ytchhjldopecliaa
namespace Go.Proofs.Ytchhjldopecliaa
open Go.RowKit

set_option maxHeartbeats 1000000 in
theorem c_openFromM (A : Option Addr) (n c : Nat) (ms : List Md) (x : Str) (w : World) (h : SlR w 5 RMd A n c ms) :
    Calls Try.prog 45 #[.slice A n c, .string x] w fun e w' => (∃ o, e = .returned (.tuple #[.map o, .int .i64 (opf ms x)]) ∧ (opf ms x = 0 → opn ms = 0 ∧ Good ms ∧ (∃ p, fnd x (prs ms) = some p) ∧ ∃ b, o = some b ∧ MapP w' b (prs ms) ∧ w.heap.size ≤ b)) ∧ Below w.heap.size w w' := by
  have hlim := h.lim
  have H := Box.mk h
  clear h
  go_enter Try.func45, Try.ntmps45
  go_wp2_with fail
  refine (c_openM A n c ms w H.out).mono ?_
  rintro e w1 ⟨⟨o, rfl, hv⟩, hb1⟩
  have HB1 := Box.mk hb1
  clear hb1
  generalize ho : opn ms = V at *
  by_cases h0 : V = 0
  · subst h0
    obtain ⟨hg, b, rfl, ⟨kvs, hk, hpv⟩, hbl⟩ := hv rfl
    have HG := Box.mk hg
    have HM := Box.mk (show MapP w1 b (prs ms) from ⟨kvs, hk, hpv⟩)
    have HBL := Box.mk hbl
    have HV := Box.mk ho
    have HO : Box (opf ms x = if fnd x (prs ms) = none then 4 else 0) := ⟨by simp [opf, ho]⟩
    clear ho hv hg hbl
    generalize hf : fnd x (prs ms) = F at *
    cases F with
    | none =>
      have hlk : (Instr.lookup 57 (.map (some b)) (.string x) true).run Try.prog w1 = .ok (.tuple #[.agg #[.int .i64 0, .slice none 0 0], .bool false]) w1 := (hk.look keyS Try.underlying57 (zero_proc w1) (hpv.get_none hf)).2
      clear hk hpv hf
      go_wp2_with fail
      go_ret2
      refine ⟨⟨_, ret2i (by simp [HO.out]), fun h => ?_⟩, bel_alloc2 HB1.out _⟩
      simp [HO.out] at h
    | some q =>
      obtain ⟨v, hv, A7, n7, c7, rfl, hq⟩ := hpv.get_some hf
      have hlk : (Instr.lookup 57 (.map (some b)) (.string x) true).run Try.prog w1 = .ok (.tuple #[.agg #[.int .i64 q.ov, .slice A7 n7 c7], .bool true]) w1 := (hk.look keyS Try.underlying57 (zero_proc w1) hv).2
      have HF := Box.mk hf
      clear hk hpv hf hv hq
      go_wp2_with fail
      go_ret2
      exact ⟨⟨_, ret2i (by simp [HO.out]), fun h => ⟨HV.out, HG.out, ⟨q, HF.out⟩, b, rfl, HM.out.below (bel_alloc _ _), HBL.out⟩⟩, bel_alloc2 HB1.out _⟩
  · have HO : Box (opf ms x = V) := ⟨by simp [opf, ho, h0]⟩
    have HN := Box.mk h0
    have h0' : ¬ ((V : Int) == 0) = true := by simpa using h0
    clear ho hv
    go_wp2_with fail
    go_ret2
    exact ⟨⟨_, ret2i (by rw [HO.out]), fun h => absurd (HO.out ▸ h) HN.out⟩, HB1.out⟩

theorem nameOk_nosp {x : Str} (h : nameOk x = true) : NoSp x ∧ x.size ≤ 10 := by
  unfold nameOk at h
  simp only [Bool.and_eq_true, List.all_eq_true, List.mem_range, decide_eq_true_eq] at h
  obtain ⟨h1, h2, h3⟩ := h
  refine ⟨fun hm => ?_, h3⟩
  obtain ⟨i, hi, e⟩ := List.mem_iff_getElem.1 hm
  have hs : i < x.size := by rw [size_bs]; exact hi
  have hb : bAt x i = 32 := by
    rw [bAt_bs, List.getD_eq_getElem?_getD, List.getElem?_eq_getElem hi, Option.getD_some, e]
    rfl
  have := h1 i hs
  rw [hb] at this
  revert this
  unfold badc
  simp [letr]
theorem Good.wsp {ms : List Md} (h : Good ms) (h0 : opn ms = 0) : WsP (prs ms) := by
  have hn : ∀ p ∈ prs ms, nameOk p.nm = true := fun p hp => by
    obtain ⟨m, hm, i, hi, rfl⟩ := prs_mem hp
    have hr := h.right m hm
    unfold rightB at hr
    simp only [Bool.and_eq_true, Bool.not_eq_true'] at hr
    have h5 := hr.2.2.2.2.1
    rw [List.any_eq_false] at h5
    have e : (pcOf m i).nm = m.pr[i] := getD_some (List.getElem?_eq_getElem hi)
    have := h5 _ (List.getElem_mem hi)
    rw [e]
    unfold badN at this
    simpa using this
  exact ⟨opn_all h0, fun p hp => (nameOk_nosp (hn p hp)).1, fun p hp => (nameOk_nosp (hn p hp)).2, fun p hp => h.pcalls hp⟩

theorem run_store_fn' (P : Program) (w : World) (a : Addr) (m : Mode) (f : Fn) (x y : Array Value) : (store a (.func f x y) m).run P w = stored P w a (.func f x y) m := run_store P w a _ m rfl
attribute [local go_sem] run_store_fn'
set_option maxRecDepth 100000 in
set_option maxHeartbeats 4000000 in
theorem c_Worst (A : Option Addr) (n c : Nat) (ms : List Md) (x : Str) (k : Int) (w : World) (h : SlR w 5 RMd A n c ms) :
    Calls Try.prog 42 #[.slice A n c, .string x, .int .i64 k] w fun e w' => e = .returned (.tuple #[.int .i64 (wor ms x k).1, .int .i64 (wor ms x k).2]) ∧ Below w.heap.size w w' := by
  have hlim := h.lim
  have H := Box.mk h
  clear h
  go_enter Try.func42, Try.ntmps42
  have hmm := @run_makeMap Try.prog
  go_wp2_with fail
  refine (c_openFromM A n c ms x w H.out).mono ?_
  rintro e w1 ⟨⟨o, rfl, hv⟩, hb1⟩
  have HB1 := Box.mk hb1
  clear hb1
  by_cases h0 : opf ms x = 0
  case neg =>
    have HO : Box (wor ms x k = (0, opf ms x)) := ⟨by unfold wor; rw [if_pos h0]⟩
    have h0' : (opf ms x != 0) = true := by simpa using h0
    clear hv
    generalize opf ms x = V at *
    go_wp2_with fail
    go_ret2
    exact ⟨by rw [HO.out]; rfl, bel_alloc2 HB1.out _⟩
  case pos =>
  obtain ⟨hop, hg, hp0, bp, rfl, hm, hbl⟩ := hv h0
  have HW : Box (wor ms x k = if k < 0 ∨ 12 < k then (0, 1) else ((entR (0, 0) (ovOf (prs ms) x)).2 + wst (prs ms) k.toNat x [] (entR (0, 0) (ovOf (prs ms) x)).1, 0)) := ⟨by unfold wor; rw [if_neg (by simpa using h0)]⟩
  have HP := Box.mk (hg.wsp hop)
  have HM := Box.mk hm
  have HX := Box.mk hp0
  rw [h0]
  clear hv hop hg hp0 hm hbl h0
  by_cases hk0 : k < 0
  · have HO : Box (wor ms x k = (0, 1)) := ⟨by rw [HW.out, if_pos (.inl hk0)]⟩
    go_wp2_with fail
    go_ret2
    exact ⟨by rw [HO.out]; rfl, bel_alloc2 HB1.out _⟩
  by_cases hk1 : 12 < k
  · have HO : Box (wor ms x k = (0, 1)) := ⟨by rw [HW.out, if_pos (.inr hk1)]⟩
    go_wp2_with fail
    go_ret2
    exact ⟨by rw [HO.out]; rfl, bel_alloc2 HB1.out _⟩
  rw [if_neg (by omega)] at HW
  obtain ⟨m, rfl⟩ := Int.eq_ofNat_of_zero_le (by omega : 0 ≤ k)
  rw [Int.toNat_natCast] at HW
  have hm12 : m ≤ 12 := by omega
  generalize prs ms = ps at *
  clear hk0 hk1
  obtain ⟨kvs, hk, hpv⟩ := HM.out
  obtain ⟨pt, hpt⟩ := HX.out
  obtain ⟨v, hv, A7, n7, c7, rfl, hq⟩ := hpv.get_some hpt
  have HLK := Box.mk (fun W (hW : Below w1.heap.size w1 W) => ((hk.below hW).look keyS Try.underlying57 (zero_proc W) hv).1)
  have hfd := field64_0 pt.ov A7 n7 c7
  have HOV : Box (ovOf ps x = pt.ov) := ⟨by unfold ovOf; rw [hpt]; rfl⟩
  clear hk hpv hv hq hpt
  go_upto_region 9 with fail
  have HE : Box (WsE ps w1 ((((w1.alloc (.cells #[.map (some bp)] 57)).alloc (.map #[] 0)).alloc (.cells #[.map (some (w1.heap.size + 1))] 103)).alloc (.cells #[.func (.func 83) #[] #[ptr (w1.heap.size + 1 + 1), ptr w1.heap.size, ptr (w1.heap.size + 1 + 1 + 1)]] 104)) (w1.heap.size + 1 + 1) w1.heap.size (w1.heap.size + 1 + 1 + 1) (w1.heap.size + 1) bp) := ⟨by
    have hmemo : Memo ps ((w1.alloc (.cells #[.map (some bp)] 57)).alloc (.map #[] 0)) (w1.heap.size + 1) := by
      have := MapK_made (w1.alloc (.cells #[.map (some bp)] 57)) encW
      rw [show (w1.alloc (.cells #[.map (some bp)] 57)).heap.size = w1.heap.size + 1 by simp] at this
      exact ⟨[], this, fun s t o n v hv => by simp [getK_nil] at hv⟩
    have hm2 : Memo ps ((((w1.alloc (.cells #[.map (some bp)] 57)).alloc (.map #[] 0)).alloc (.cells #[.map (some (w1.heap.size + 1))] 103)).alloc (.cells #[.func (.func 83) #[] #[ptr (w1.heap.size + 1 + 1), ptr w1.heap.size, ptr (w1.heap.size + 1 + 1 + 1)]] 104)) (w1.heap.size + 1) := by
      obtain ⟨q1, q2, q3⟩ := hmemo
      exact ⟨q1, (q2.below (bel_alloc _ _)).below (bel_alloc _ _), q3⟩
    exact ⟨cell_al _ (cell_new _ _ _ (by simp) rfl), cell_al _ (cell_al _ (cell_al _ (cell_new _ _ _ rfl rfl))), cell_new _ _ _ (by simp) rfl, bel_alloc2 (bel_alloc2 (bel_alloc2 (bel_alloc w1 _) _) _) _, by omega, by omega, by omega, by omega, by omega, by omega, by omega, hm2⟩⟩
  have HB2 : Box (Below w1.heap.size w1 ((((w1.alloc (.cells #[.map (some bp)] 57)).alloc (.map #[] 0)).alloc (.cells #[.map (some (w1.heap.size + 1))] 103)).alloc (.cells #[.func (.func 83) #[] #[ptr (w1.heap.size + 1 + 1), ptr w1.heap.size, ptr (w1.heap.size + 1 + 1 + 1)]] 104))) := ⟨HE.out.bel⟩
  generalize ((((w1.alloc (.cells #[.map (some bp)] 57)).alloc (.map #[] 0)).alloc (.cells #[.map (some (w1.heap.size + 1))] 103)).alloc (.cells #[.func (.func 83) #[] #[ptr (w1.heap.size + 1 + 1), ptr w1.heap.size, ptr (w1.heap.size + 1 + 1 + 1)]] 104)) = W2 at *
  clear hmm
  have e2 := HE.out.c2
  have hlk := HLK.out W2 HB2.out
  go_wp2_with fail
  refine (c_enter 0 0 pt.ov W2 (by omega)).mono ?_
  rintro e W3 ⟨rfl, hb3⟩
  have HE3 := Box.mk (HE.out.below hb3)
  have HB3 := Box.mk (below_tr HB2.out HB2.out.size hb3)
  have hld := entR_loads (0, 0) pt.ov
  rw [HOV.out] at HW
  clear e2 hlk hb3 HE HB2
  generalize (entR (0, 0) pt.ov).1 = o' at *
  generalize (entR (0, 0) pt.ov).2 = l at *
  go_upto_region 10 with fail
  have HE4 := Box.mk (HE3.out.below (bel_alloc W3 (.cells #[.int .i64 o', .int .i64 l] 61)))
  have HB4 := Box.mk (bel_alloc2 HB3.out (.cells #[.int .i64 o', .int .i64 l] 61))
  have H64 : Box (CellsB (W3.alloc (.cells #[.int .i64 o', .int .i64 l] 61)) W3.heap.size [.int .i64 o', .int .i64 l] 61) := ⟨heap_alloc_new W3 _⟩
  have HLT : Box (W3.heap.size ≠ w1.heap.size + 1) := ⟨by have := HE3.out.memo.lt; omega⟩
  generalize W3.alloc (.cells #[.int .i64 o', .int .i64 l] 61) = W4 at *
  generalize W3.heap.size = b6 at *
  have e0 := H64.out.cell (j := 0) rfl
  have e1 := H64.out.cell (j := 1) rfl
  have e3 := HE4.out.c3
  have CI : Box (Calls Try.prog 83 #[.agg #[.string ⟨#[]⟩, .string x, .int .i64 o', .int .i64 (m : Int)], ptr (w1.heap.size + 1 + 1), ptr w1.heap.size, ptr (w1.heap.size + 1 + 1 + 1)] W4.drew fun e w' => e = .returned (.int .i64 (wst ps m x [] o')) ∧ WsE ps w1 w' (w1.heap.size + 1 + 1) w1.heap.size (w1.heap.size + 1 + 1 + 1) (w1.heap.size + 1) bp ∧ W4.drew.grownBy w' (some (w1.heap.size + 1))) :=
    ⟨c_worst1 ps w1 (w1.heap.size + 1 + 1) w1.heap.size (w1.heap.size + 1 + 1 + 1) (w1.heap.size + 1) bp HM.out HP.out m W4.drew x [] o' HE4.out.drew HX.out (by simp) (by simpa using hm12)⟩
  have HB4d : Box (Below w1.heap.size w1 W4.drew) := ⟨⟨HB4.out.os, HB4.out.tape, HB4.out.output, HB4.out.size, HB4.out.block⟩⟩
  have T4 : Box (W4.drew.cell? ⟨b6, 0, none⟩ = some (.int .i64 o') ∧ W4.drew.cell? ⟨b6, 1, none⟩ = some (.int .i64 l) ∧ W4.drew.cell? ⟨w1.heap.size + 1 + 1 + 1, 0, none⟩ = some (.func (.func 83) #[] #[ptr (w1.heap.size + 1 + 1), ptr w1.heap.size, ptr (w1.heap.size + 1 + 1 + 1)])) := ⟨⟨e0, e1, e3⟩⟩
  go_region_held3 (fun W : World => W.cell? ⟨b6, 0, none⟩ = some (.int .i64 o') ∧ W.cell? ⟨b6, 1, none⟩ = some (.int .i64 l) ∧ W.cell? ⟨w1.heap.size + 1 + 1 + 1, 0, none⟩ = some (.func (.func 83) #[] #[ptr (w1.heap.size + 1 + 1), ptr w1.heap.size, ptr (w1.heap.size + 1 + 1 + 1)]))
    (with_reducible first | exact T4.out | exact T5.out)
    (((with_reducible refine CI.out.mono ?_); rintro e W5 ⟨rfl, hE5, hg5⟩; have HB5 := Box.mk (HB4d.out.grown hg5 HB4d.out.size (fun q hq => (by injection hq with hq; omega))); have T5 := Box.mk (And.intro (hg5.cell T4.out.1 (fun e => HLT.out (by injection e))) (And.intro (hg5.cell T4.out.2.1 (fun e => HLT.out (by injection e))) (hg5.cell T4.out.2.2 (fun e => HE4.out.n3 (by injection e))))); clear hE5 hg5))
  have hg0 := wst_ge ps m x [] o'
  have hg1 := wst_le ps m x [] o'
  have hl1 : 0 ≤ l := hld.1
  have hl2 : l ≤ 1 := by have := hld.2; simpa using this
  have hwr : IntKind.i64.wrap (l + wst ps m x [] o') = l + wst ps m x [] o' := wrap_i64 (by omega) (by omega)
  rw [hwr]
  clear hwr hg0 hg1 hl1 hl2 hld
  go_wp2_with fail
  go_ret2
  exact ⟨by rw [HW.out]; rfl, below_tr HB1.out HB1.out.size HB5.out⟩
end Go.Proofs.Ytchhjldopecliaa
namespace Go.Proofs.Ytchhjldopecliaa
open Go.RowKit

/-- Some number. -/
def SomeI (w : World) (e : Ending) (w' : World) : Prop := (∃ v : Int, e = .returned (.int .i64 v)) ∧ Below w.heap.size w w'
/-- Yes or no. -/
def SomeB (w : World) (e : Ending) (w' : World) : Prop := (∃ q : Bool, e = .returned (.bool q)) ∧ Below w.heap.size w w'

set_option maxRecDepth 100000 in
set_option maxHeartbeats 2000000 in
theorem c_lprocs (A : Option Addr) (n c : Nat) (ms : List Md) (w : World) (h : SlR w 5 RMd A n c ms) :
    Calls Try.prog 82 #[.slice A n c] w (SomeI w) := by
  have hlim := h.lim
  have H := Box.mk h
  clear h
  go_enter Try.func82, Try.ntmps82
  go_wp2_with fail
  go_loop [3, 4] (fun t i => ∃ k : Nat, k ≤ n ∧ i = .int .i64 k ∧ ∃ z, t = .int .i64 z) (fun _ i => n - (intOf i).toNat)
  case atStart => exact ⟨0, Nat.zero_le _, rfl, _, rfl⟩
  case round =>
    obtain ⟨k, hk, rfl, z, rfl⟩ := hrel
    by_cases hlt : k < n
    · obtain ⟨b, off, m, A1, n1, c1, A2, n2, c2, A3, n3, c3, rfl, hb, hm, hM, h0, h1, h2, h3, h4⟩ := H.out.md_at k hlt
      have hn1 := hM.pr.lim
      clear hm hM h0 h1 h3 h4
      go_wp2_with fail
      generalize (wrap64 (z + ↑n1)) = z2
      exact ⟨⟨k + 1, by omega, by go_num, _, rfl⟩, by simp [intOf]; omega⟩
    · go_wp2_with fail
      go_ret
      exact ⟨⟨_, rfl⟩, Below.refl _ _⟩

set_option maxRecDepth 100000 in
set_option maxHeartbeats 2000000 in
theorem c_wide (A : Option Addr) (n c : Nat) (ms : List Md) (w : World) (h : SlR w 5 RMd A n c ms) :
    Calls Try.prog 41 #[.slice A n c] w (SomeB w) := by
  have hlim := h.lim
  have H := Box.mk h
  clear h
  go_enter Try.func41, Try.ntmps41
  go_wp2_with fail
  go_loop [3, 4] (fun i _ => ∃ k : Nat, k ≤ n ∧ i = .int .i64 k) (fun i _ => n - (intOf i).toNat)
  case atStart => exact ⟨0, Nat.zero_le _, rfl⟩
  case round =>
    obtain ⟨k, hk, rfl⟩ := hrel
    by_cases hlt : k < n
    · obtain ⟨b, off, m, A1, n1, c1, A2, n2, c2, A3, n3, c3, rfl, hb, hm, hM, h0, h1, h2, h3, h4⟩ := H.out.md_at k hlt
      have hn3 := hM.cl.lim
      have HM := Box.mk hM
      clear hm hM h0 h1 h2 h3
      go_wp2_with fail
      go_loop [4] (fun i => ∃ j : Nat, j ≤ n3 ∧ i = .int .i64 j) (fun i => n3 - (intOf i).toNat)
      case atStart => exact ⟨0, Nat.zero_le _, rfl⟩
      case round =>
        obtain ⟨j, hj, rfl⟩ := hrel
        by_cases hjl : j < n3
        · obtain ⟨b6, o6, l, A6, n6, c6, rfl, hb6, hx6, hc6, hl6⟩ := HM.out.cl.sl_at j hjl
          have hn6 := hl6.lim
          clear hx6 hl6
          by_cases h2 : 2 < n6
          · go_wp2_with fail
            go_ret
            exact ⟨⟨_, rfl⟩, Below.refl _ _⟩
          · go_wp2_with fail
            exact ⟨⟨j + 1, by omega, by go_num⟩, by simp [intOf]; omega⟩
        · go_wp2_with fail
          exact ⟨⟨k + 1, by omega, by go_num⟩, by simp [intOf]; omega⟩
    · go_wp2_with fail
      refine (c_lprocs A n c ms w H.out).mono ?_
      rintro e w2 ⟨⟨v, rfl⟩, hb2⟩
      have HB2 := Box.mk hb2
      clear hb2
      go_wp2_with fail
      go_ret
      exact ⟨⟨_, rfl⟩, HB2.out⟩

set_option maxRecDepth 100000 in
set_option maxHeartbeats 2000000 in
theorem c_LinkBound (A : Option Addr) (n c : Nat) (ms : List Md) (x : Str) (A2 : Option Addr) (n2 c2 : Nat) (walk : List Str) (w : World) (h : SlR w 5 RMd A n c ms) (h2 : SlR w 1 RStr A2 n2 c2 walk) (hx : x.size ≤ LIM) :
    Calls Try.prog 12 #[.slice A n c, .string x, .slice A2 n2 c2] w fun e w' => e = .returned (.bool true) ∧ Below w.heap.size w w' := by
  have hlim := h.lim
  have hlim2 := h2.lim
  have H := Box.mk h
  have H2 := Box.mk h2
  clear h h2
  rw [LIM_eq] at hx
  have ending : ∀ (w1 : World), Below w.heap.size w w1 → Calls Try.prog 16 #[] w1 fun e w' => e = .returned (.bool true) ∧ Below w.heap.size w w' := fun w1 hb => (c_known w1).mono (by rintro e w2 ⟨rfl, hb2⟩; exact ⟨rfl, below_tr hb hb.size hb2⟩)
  have HEND := Box.mk ending
  clear ending
  go_enter Try.func12, Try.ntmps12
  go_wp2_with fail
  refine (c_over A n c ms w H.out).mono ?_
  rintro e w1 ⟨⟨q, rfl, hq⟩, hb1⟩
  have HB1 := Box.mk hb1
  clear hb1 hq
  cases q
  case true =>
    go_wp2_with fail
    refine (HEND.out w1 HB1.out).mono ?_
    rintro e w2 ⟨rfl, hb2⟩
    have HB2 := Box.mk hb2
    clear hb2
    go_wp2_with fail
    go_ret
    exact ⟨rfl, HB2.out⟩
  case false =>
  by_cases hxm : ((x.size : Nat) : Int) ≤ 65536
  case neg =>
    go_wp2_with fail
    refine (HEND.out w1 HB1.out).mono ?_
    rintro e w2 ⟨rfl, hb2⟩
    have HB2 := Box.mk hb2
    clear hb2
    go_wp2_with fail
    go_ret
    exact ⟨rfl, HB2.out⟩
  case pos =>
  go_wp2_with fail
  refine (c_heavyTexts A2 n2 c2 walk w1 (H2.out.below mono_str HB1.out)).mono ?_
  rintro e _ ⟨rfl, rfl⟩
  generalize hvyK n2 walk = hv
  by_cases hvm : hv ≤ 65536
  case neg =>
    go_wp2_with fail
    refine (HEND.out w1 HB1.out).mono ?_
    rintro e w2 ⟨rfl, hb2⟩
    have HB2 := Box.mk hb2
    clear hb2
    go_wp2_with fail
    go_ret
    exact ⟨rfl, HB2.out⟩
  case pos =>
  go_wp2_with fail
  refine (c_wide A n c ms w1 (H.out.below mono_md HB1.out)).mono ?_
  rintro e w2 ⟨⟨q, rfl⟩, hb2⟩
  have HB2 := Box.mk (below_tr HB1.out HB1.out.size hb2)
  clear hb2
  cases q
  case true =>
    go_wp2_with fail
    refine (HEND.out w2 HB2.out).mono ?_
    rintro e w3 ⟨rfl, hb3⟩
    have HB3 := Box.mk hb3
    clear hb3
    go_wp2_with fail
    go_ret
    exact ⟨rfl, HB3.out⟩
  case false =>
  have HLAW : Box (∀ v, lds ms x walk = (v, 0) → walk.length ≤ 12 → (wor ms x walk.length).2 = 0 ∧ v ≤ (wor ms x walk.length).1 ∧ (wor ms x walk.length).1 ≤ walk.length + 1) := ⟨fun v h1 h2 => lds_wor h1 h2⟩
  rw [H2.out.len] at HLAW
  go_wp2_with fail
  refine (c_Loads A n c ms x A2 n2 c2 walk w2 (H.out.below mono_md HB2.out) (H2.out.below mono_str HB2.out)).mono ?_
  rintro e w3 ⟨rfl, hb3⟩
  have HB3 := Box.mk (below_tr HB2.out HB2.out.size hb3)
  clear hb3
  have CW := Box.mk (c_Worst A n c ms x n2 w3 (H.out.below mono_md HB3.out))
  generalize hv1 : (lds ms x walk).1 = v at *
  generalize hv2 : (lds ms x walk).2 = E at *
  have HPR : Box (lds ms x walk = (v, E)) := ⟨Prod.ext hv1 hv2⟩
  clear hv1 hv2
  generalize (wor ms x ↑n2).1 = u at *
  generalize (wor ms x ↑n2).2 = F at *
  by_cases hE : E = 0
  case neg =>
    have hE2 : (E != 0) = true := by simpa using hE
    go_wp2_with fail
    refine (HEND.out w3 HB3.out).mono ?_
    rintro e w4 ⟨rfl, hb4⟩
    have HB4 := Box.mk hb4
    clear hb4
    go_wp2_with fail
    go_ret
    exact ⟨rfl, HB4.out⟩
  case pos =>
  subst hE
  by_cases hn : n2 ≤ 12
  case neg =>
    go_wp2_with fail
    refine (HEND.out w3 HB3.out).mono ?_
    rintro e w4 ⟨rfl, hb4⟩
    have HB4 := Box.mk hb4
    clear hb4
    go_wp2_with fail
    go_ret
    exact ⟨rfl, HB4.out⟩
  case pos =>
  obtain ⟨hF, hu1, hu2⟩ := HLAW.out v HPR.out hn
  subst hF
  clear HLAW HPR
  go_wp2_with fail
  refine CW.out.mono ?_
  rintro e w4 ⟨rfl, hb4⟩
  have HB4 := Box.mk (below_tr HB3.out HB3.out.size hb4)
  clear hb4
  go_wp2_with fail
  refine (HEND.out w4 HB4.out).mono ?_
  rintro e w5 ⟨rfl, hb5⟩
  have HB5 := Box.mk hb5
  clear hb5
  go_wp2_with fail
  go_ret
  exact ⟨rfl, HB5.out⟩
end Go.Proofs.Ytchhjldopecliaa
