/-
  Plain: what the parser of patterns (package bre) comes to, on lists of bytes.
-/
import Derived.Test.YtkbfckigndkkkaaDoorMem
import Derived.Lib.Strings
namespace Go.Proofs.YtkbfckigndkkkaaDoor
set_option linter.unusedSimpArgs false
set_option linter.unusedVariables false
open Go

/-! ## Sets in brackets -/
def between (a b : Nat) : UInt8 → Bool := fun c => decide (a ≤ c.toNat) && decide (c.toNat ≤ b)
/-- The classes, by their names' bytes. -/
def clsOf (s : List UInt8) : Option (UInt8 → Bool) :=
  let lower := between 97 122
  let upper := between 65 90
  let digit := between 48 57
  let alnum : UInt8 → Bool := fun c => lower c || upper c || digit c
  let graph := between 33 126
  if s = [108, 111, 119, 101, 114] then some lower
  else if s = [117, 112, 112, 101, 114] then some upper
  else if s = [100, 105, 103, 105, 116] then some digit
  else if s = [97, 108, 110, 117, 109] then some alnum
  else if s = [103, 114, 97, 112, 104] then some graph
  else if s = [97, 108, 112, 104, 97] then some fun c => lower c || upper c
  else if s = [120, 100, 105, 103, 105, 116] then some fun c => digit c || between 97 102 c || between 65 70 c
  else if s = [115, 112, 97, 99, 101] then some fun c => between 9 13 c || between 32 32 c
  else if s = [98, 108, 97, 110, 107] then some fun c => between 9 9 c || between 32 32 c
  else if s = [99, 110, 116, 114, 108] then some fun c => between 0 31 c || between 127 127 c
  else if s = [112, 114, 105, 110, 116] then some (between 32 126)
  else if s = [112, 117, 110, 99, 116] then some fun c => graph c && !alnum c
  else none
/-- What stands ahead of the first ":]", and behind it. -/
def cutCol : List UInt8 → Option (List UInt8 × List UInt8)
  | a :: b :: t => if a = 58 ∧ b = 93 then some ([], t) else (cutCol (b :: t)).map fun (x, y) => (a :: x, y)
  | _ => none
/-- ':', '.' or '=' behind a bracket at the beginning; 0: none of them. -/
def clsKind : List UInt8 → UInt8
  | a :: b :: _ => if a = 91 ∧ (b = 58 ∨ b = 46 ∨ b = 61) then b else 0
  | _ => 0
/-- The part at the beginning, and what is behind it. -/
def clsPart (s : List UInt8) : Option ((UInt8 → Bool) × List UInt8) :=
  match s with
  | [] => none
  | a :: t =>
    if clsKind s = 58 then
      match cutCol (s.drop 2) with
      | none => none
      | some (name, rest) => (clsOf name).map fun f => (f, rest)
    else if clsKind s ≠ 0 then none
    else match t with
      | b :: c :: t' => if b = 45 ∧ c ≠ 93 then (if a.toNat ≤ c.toNat ∧ clsKind (c :: t') = 0 then some (between a.toNat c.toNat, t') else none) else some (between a.toNat a.toNat, t)
      | _ => some (between a.toNat a.toNat, t)
/-- The parts up to the closing bracket. -/
def clsLoop : Nat → List UInt8 → Bool → (UInt8 → Bool) → Option ((UInt8 → Bool) × List UInt8)
  | 0, _, _, _ => none
  | n + 1, s, first, acc =>
    if !first && Lib.hasPrefix s [93] then some (acc, s)
    else match clsPart s with
      | none => none
      | some (f, rest) => clsLoop n rest false fun c => acc c || f c
/-- An expression in brackets at the beginning: its set, and what is behind it. -/
def clsParse (s : List UInt8) : Option ((UInt8 → Bool) × List UInt8) :=
  match s with
  | 91 :: t =>
    let nt := Lib.hasPrefix t [94]
    match clsLoop (t.length + 1) (Lib.trimPrefix t [94]) true noS with
    | none => none
    | some (f, rest) => some (fun c => f c != nt, rest.drop 1)
  | _ => none

/-! ## Patterns -/
/-- What is left of a pattern, how many groups and nodes there are, whether there was a reference, which groups are open. -/
structure PSt where
  left : List UInt8
  g : Int
  m : Int
  r : Bool
  opn : List Int
def isDig (c : UInt8) : Bool := between 48 57 c
def numVal (l : List UInt8) : Int := l.foldl (fun n c => min (10 * n + (c.toNat - 48)) 256) 0
def nodeS (st : PSt) : Option PSt := if st.m + 1 ≤ 200 then some { st with m := st.m + 1 } else none
def mkS (st : PSt) (h : Hd) (k : Fo) : Option ((Hd × Fo) × PSt) := (nodeS st).map fun st' => ((h, k), st')
/-- What stands between the braces: from, to, and what is behind the closing one. -/
def braceS (s : List UInt8) : Option (Int × Int × List UInt8) :=
  let ds := s.takeWhile isDig
  let l2 := s.dropWhile isDig
  let m := numVal ds
  let l3 := if Lib.hasPrefix l2 [44] then (l2.drop 1).dropWhile isDig else l2
  let n := if Lib.hasPrefix l2 [44] then (if (l2.drop 1).takeWhile isDig ≠ [] then numVal ((l2.drop 1).takeWhile isDig) else -1) else m
  if ds ≠ [] ∧ Lib.hasPrefix l3 [92, 125] ∧ m ≤ 255 ∧ n ≤ 255 ∧ (n < 0 ∨ m ≤ n) then some (m, n, l3.drop 2) else none
def timesS : Nat → PSt → Hd → Fo → Option ((Hd × Fo) × PSt)
  | 0, _, _, _ => none
  | n + 1, st, h, k =>
    if Lib.hasPrefix st.left [42] then
      match nodeS { st with left := st.left.drop 1 } with
      | none => none
      | some st' => timesS n st' ⟨8, 0, noS, 0, 0, -1⟩ (Fo.one h k)
    else if Lib.hasPrefix st.left [92, 123] then
      match braceS (st.left.drop 2) with
      | none => none
      | some (a, b, l) =>
        match nodeS { st with left := l } with
        | none => none
        | some st' => timesS n st' ⟨8, 0, noS, 0, a, b⟩ (Fo.one h k)
    else some ((h, k), st)
def groupS (row : PSt → Option (Fo × PSt)) (st : PSt) : Option ((Hd × Fo) × PSt) :=
  if st.g + 1 ≤ 9 then
    match nodeS { st with g := st.g + 1 } with
    | none => none
    | some st1 =>
      match row { st1 with opn := st1.opn ++ [st.g + 1] } with
      | none => none
      | some (kids, st2) => if Lib.hasPrefix st2.left [92, 41] then some ((⟨7, 0, noS, st.g + 1, 0, 0⟩, kids), { st2 with left := st2.left.drop 2, opn := st2.opn.dropLast }) else none
  else none
def slashS (row : PSt → Option (Fo × PSt)) (st : PSt) : Option ((Hd × Fo) × PSt) :=
  match st.left with
  | [] => none
  | c :: t =>
    if c = 40 then groupS row { st with left := t }
    else if 49 ≤ c.toNat ∧ c.toNat ≤ 57 then
      if (c.toNat : Int) - 48 ≤ st.g ∧ ((c.toNat : Int) - 48) ∉ st.opn then mkS { st with left := t, r := true } ⟨6, 0, noS, (c.toNat : Int) - 48, 0, 0⟩ .nil else none
    else if c = 123 ∨ c = 125 ∨ c = 41 then none
    else mkS { st with left := t } ⟨1, c, noS, 0, 0, 0⟩ .nil
def partS (row : PSt → Option (Fo × PSt)) (st : PSt) (first begun : Bool) : Option ((Hd × Fo) × PSt) :=
  match st.left with
  | [] => none
  | c :: t =>
    if c = 92 then slashS row { st with left := t }
    else if c = 91 then
      match clsParse st.left with
      | none => none
      | some (f, rest) => mkS { st with left := rest } ⟨3, 0, f, 0, 0, 0⟩ .nil
    else if c = 46 then mkS { st with left := t } ⟨2, 0, noS, 0, 0, 0⟩ .nil
    else if c = 94 ∧ first = true then mkS { st with left := t } ⟨4, 0, noS, 0, 0, 0⟩ .nil
    else if c = 36 ∧ (t = [] ∨ Lib.hasPrefix t [92, 41]) then mkS { st with left := t } ⟨5, 0, noS, 0, 0, 0⟩ .nil
    else if c = 42 ∧ first = false ∧ begun = false then none
    else mkS { st with left := t } ⟨1, c, noS, 0, 0, 0⟩ .nil
def lastBegin (acc : Fo) : Bool := match acc.tops.getLast? with | some h => h.kind == 4 | none => false
def rowS : Nat → PSt → Fo → Option (Fo × PSt)
  | 0, _, _ => none
  | n + 1, st, acc =>
    if st.left = [] ∨ Lib.hasPrefix st.left [92, 41] then some (acc, st)
    else match partS (fun s => rowS n s .nil) st (decide (acc.tops.length = 0)) (lastBegin acc) with
      | none => none
      | some ((h, k), st1) =>
        if h.kind = 4 ∨ h.kind = 5 then rowS n st1 (acc.snoc h k)
        else match timesS (st1.left.length + 1) st1 h k with
          | none => none
          | some ((h', k'), st2) => rowS n st2 (acc.snoc h' k')
def breS (s : List UInt8) : Option (Fo × PSt) :=
  match rowS (s.length + 1) ⟨s, 0, 0, false, []⟩ .nil with
  | none => none
  | some (fo, st) => if st.left = [] then some (fo, st) else none
end Go.Proofs.YtkbfckigndkkkaaDoor

/-
  Plain: the parser goes on, and counts up.
-/
namespace Go.Proofs.YtkbfckigndkkkaaDoor
open Go

/-- From one state of the parser to a later one. -/
structure Mono (st st' : PSt) : Prop where
  left : st'.left.length ≤ st.left.length
  m : st.m ≤ st'.m
  m2 : st'.m ≤ 200
  g : st.g ≤ st'.g
  g2 : st'.g ≤ 9
  o : st'.opn = st.opn
theorem Mono.trans {a b c : PSt} (h : Mono a b) (k : Mono b c) : Mono a c :=
  ⟨Nat.le_trans k.left h.left, Int.le_trans h.m k.m, k.m2, Int.le_trans h.g k.g, k.g2, k.o.trans h.o⟩
theorem Mono.refl {a : PSt} (h : a.m ≤ 200) (h2 : a.g ≤ 9) : Mono a a := ⟨Nat.le_refl _, Int.le_refl _, h, Int.le_refl _, h2, rfl⟩
def RowMono (row : PSt → Option (Fo × PSt)) : Prop := ∀ st fo st', st.m ≤ 200 → st.g ≤ 9 → row st = some (fo, st') → Mono st st'

theorem clsLoop_len : ∀ (n : Nat) (s : List UInt8) (f : Bool) (acc : UInt8 → Bool) (g : UInt8 → Bool) (r : List UInt8), clsLoop n s f acc = some (g, r) → r.length ≤ s.length
  | 0, _, _, _, _, _, h => by simp [clsLoop] at h
  | n + 1, s, f, acc, g, r, h => by
    unfold clsLoop at h
    split at h
    · cases h; exact Nat.le_refl _
    · split at h
      · cases h
      · rename_i f' rest hp
        have h1 := clsLoop_len n rest false _ g r h
        have h2 : rest.length ≤ s.length := by
          unfold clsPart at hp
          split at hp
          · cases hp
          · rename_i a t
            split at hp
            · split at hp
              · cases hp
              · rename_i nm rs hc
                have hcut : ∀ (l x y : List UInt8), cutCol l = some (x, y) → y.length ≤ l.length := by
                  intro l
                  induction l with
                  | nil => intro x y h; simp [cutCol] at h
                  | cons a l ih =>
                    intro x y h
                    cases l with
                    | nil => simp [cutCol] at h
                    | cons b t =>
                      simp only [cutCol] at h
                      split at h
                      · cases h; simp; omega
                      · cases hq : cutCol (b :: t) with
                        | none => rw [hq] at h; cases h
                        | some p =>
                          rw [hq] at h
                          obtain ⟨p1, p2⟩ := p
                          cases h
                          have := ih _ _ hq
                          simp at this ⊢; omega
                have := hcut _ _ _ hc
                cases hcl : clsOf nm with
                | none => rw [hcl] at hp; cases hp
                | some f0 =>
                  rw [hcl] at hp
                  cases hp
                  simp only [List.length_drop, List.length_cons] at this ⊢; omega
            · split at hp
              · cases hp
              · split at hp
                · split at hp
                  · split at hp
                    · cases hp; simp; omega
                    · cases hp
                  · cases hp; simp
                · cases hp; simp
        omega
theorem clsParse_len {s : List UInt8} {f : UInt8 → Bool} {r : List UInt8} (h : clsParse s = some (f, r)) : r.length + 1 ≤ s.length := by
  unfold clsParse at h
  split at h
  · rename_i t
    split at h
    · cases h
    · rename_i f' rest hl
      cases h
      have := clsLoop_len _ _ _ _ _ _ hl
      have h2 : (Lib.trimPrefix t [94]).length ≤ t.length := by unfold Lib.trimPrefix; split <;> simp
      simp only [List.length_drop, List.length_cons]; omega
  · cases h

theorem nodeS_mono {st st' : PSt} (h : nodeS st = some st') : st'.left = st.left ∧ st'.m = st.m + 1 ∧ st'.m ≤ 200 ∧ st'.g = st.g ∧ st'.opn = st.opn ∧ st'.r = st.r := by
  unfold nodeS at h
  split at h
  · cases h; exact ⟨rfl, rfl, by assumption, rfl, rfl, rfl⟩
  · cases h
theorem mkS_inv {st st' : PSt} {h h' : Hd} {k k' : Fo} (e : mkS st h k = some ((h', k'), st')) : h' = h ∧ k' = k ∧ nodeS st = some st' := by
  unfold mkS at e
  cases hn : nodeS st with
  | none => rw [hn] at e; cases e
  | some s => rw [hn] at e; cases e; exact ⟨rfl, rfl, rfl⟩
theorem mk_strict {st st0 st' : PSt} {h h' : Hd} {k k' : Fo} (e : mkS st0 h k = some ((h', k'), st')) (hl : st0.left.length + 1 ≤ st.left.length) (hm : st0.m = st.m) (hg : st0.g = st.g) (g9 : st.g ≤ 9) (ho : st0.opn = st.opn := by rfl) :
    st'.left.length + 1 ≤ st.left.length ∧ st.m + 1 ≤ st'.m ∧ Mono st st' := by
  obtain ⟨-, -, hn⟩ := mkS_inv e
  obtain ⟨a, b, c, d, e5, -⟩ := nodeS_mono hn
  rw [a]
  exact ⟨hl, by omega, ⟨by rw [a]; omega, by omega, c, by omega, by omega, e5.trans ho⟩⟩
theorem partS_mono {row : PSt → Option (Fo × PSt)} (hrow : RowMono row) {st st' : PSt} {first begun : Bool} {h : Hd} {k : Fo} (g9 : st.g ≤ 9)
    (e : partS row st first begun = some ((h, k), st')) : st'.left.length + 1 ≤ st.left.length ∧ st.m + 1 ≤ st'.m ∧ Mono st st' := by
  unfold partS at e
  split at e
  · cases e
  · rename_i c t hl
    have hlen : st.left.length = t.length + 1 := by rw [hl]; rfl
    split at e
    · unfold slashS at e
      simp only at e
      split at e
      · cases e
      · rename_i c2 t2
        simp only [List.length_cons] at hlen
        split at e
        · unfold groupS at e
          simp only at e
          split at e
          · rename_i hg1
            split at e
            · cases e
            · rename_i st1 hn
              obtain ⟨n1, n2, n3, n4, n5, -⟩ := nodeS_mono hn
              simp only at n1 n2 n4
              split at e
              · cases e
              · rename_i kids st2 hr
                have hM := hrow _ _ _ (by simp only; omega) (by simp only; omega) hr
                split at e
                · cases e
                  have a1 := hM.left
                  have a2 := hM.m
                  have a3 := hM.m2
                  have a4 := hM.g
                  have a5 := hM.g2
                  simp only at a1 a2 a3 a4 a5
                  have a6 := hM.o
                  simp only at a6 n5
                  rw [n1] at a1
                  refine ⟨?_, ?_, ⟨?_, ?_, ?_, ?_, ?_, ?_⟩⟩
                  rotate_right
                  · simp only [a6, n5, List.dropLast_concat]
                  all_goals (simp only [List.length_drop] <;> omega)
                · cases e
          · cases e
        · split at e
          · split at e
            · exact mk_strict e (by simp only; omega) rfl rfl g9
            · cases e
          · split at e
            · cases e
            · exact mk_strict e (by simp only; omega) rfl rfl g9
    · split at e
      · split at e
        · cases e
        · rename_i f rest hc
          have := clsParse_len hc
          exact mk_strict e (by simp only; omega) rfl rfl g9
      · split at e
        · exact mk_strict e (by simp only; omega) rfl rfl g9
        · split at e
          · exact mk_strict e (by simp only; omega) rfl rfl g9
          · split at e
            · exact mk_strict e (by simp only; omega) rfl rfl g9
            · split at e
              · cases e
              · exact mk_strict e (by simp only; omega) rfl rfl g9
theorem braceS_len {s l : List UInt8} {a b : Int} (h : braceS s = some (a, b, l)) : l.length ≤ s.length := by
  unfold braceS at h
  simp only [Option.ite_none_right_eq_some, Option.some.injEq, Prod.mk.injEq] at h
  obtain ⟨-, -, -, rfl⟩ := h
  simp only [List.length_drop]
  have h1 : (s.dropWhile isDig).length ≤ s.length := (List.dropWhile_sublist _).length_le
  split
  · have h2 : (((s.dropWhile isDig).drop 1).dropWhile isDig).length ≤ ((s.dropWhile isDig).drop 1).length := (List.dropWhile_sublist _).length_le
    simp only [List.length_drop] at h2; omega
  · omega
theorem timesS_mono : ∀ (n : Nat) {st st' : PSt} {h h' : Hd} {k k' : Fo}, st.m ≤ 200 → st.g ≤ 9 → timesS n st h k = some ((h', k'), st') → Mono st st'
  | 0, _, _, _, _, _, _, _, _, e => by simp [timesS] at e
  | n + 1, st, st', h, h', k, k', hm, hg, e => by
    unfold timesS at e
    split at e
    · split at e
      · cases e
      · rename_i st1 hn
        obtain ⟨n1, n2, n3, n4, n5, -⟩ := nodeS_mono hn
        have ih := timesS_mono n (by omega) (by rw [n4]; exact hg) e
        refine Mono.trans ⟨?_, ?_, n3, ?_, ?_, n5⟩ ih
        · rw [n1]; simp
        · simp only at n2; omega
        · simp only at n4; omega
        · simp only at n4; omega
    · split at e
      · split at e
        · cases e
        · rename_i a b l hb
          split at e
          · cases e
          · rename_i st1 hn
            obtain ⟨n1, n2, n3, n4, n5, -⟩ := nodeS_mono hn
            have ih := timesS_mono n (by omega) (by rw [n4]; exact hg) e
            have hbl := braceS_len hb
            refine Mono.trans ⟨?_, ?_, n3, ?_, ?_, n5⟩ ih
            · rw [n1]; simp only [List.length_drop] at hbl ⊢; omega
            · simp only at n2; omega
            · simp only at n4; omega
            · simp only at n4; omega
      · cases e
        exact Mono.refl hm hg
theorem rowS_mono : ∀ (n : Nat) (st : PSt) (acc fo : Fo) (st' : PSt), st.m ≤ 200 → st.g ≤ 9 → rowS n st acc = some (fo, st') → Mono st st'
  | 0, _, _, _, _, _, _, e => by simp [rowS] at e
  | n + 1, st, acc, fo, st', hm, hg, e => by
    unfold rowS at e
    split at e
    · cases e; exact Mono.refl hm hg
    · split at e
      · cases e
      · rename_i h k st1 hp
        obtain ⟨-, -, hM⟩ := partS_mono (fun s f s' h1 h2 he => rowS_mono n s .nil f s' h1 h2 he) hg hp
        split at e
        · exact hM.trans (rowS_mono n st1 _ fo st' hM.m2 hM.g2 e)
        · split at e
          · cases e
          · rename_i h2 k2 st2 ht
            have hT := timesS_mono _ hM.m2 hM.g2 ht
            exact hM.trans (hT.trans (rowS_mono n st2 _ fo st' hT.m2 hT.g2 e))
end Go.Proofs.YtkbfckigndkkkaaDoor

/-
  Plain: a pattern has no more nodes than were counted.
-/
namespace Go.Proofs.YtkbfckigndkkkaaDoor
open Go

def Fo.size : Fo → Nat
  | .nil => 0
  | .cons _ k r => 1 + k.size + r.size
theorem Fo.size_snoc (fo : Fo) (h : Hd) (k : Fo) : (fo.snoc h k).size = fo.size + 1 + k.size := by
  induction fo with
  | nil => simp [Fo.snoc, Fo.size]
  | cons h' k' r _ ih => simp only [Fo.snoc, Fo.size, ih]; omega
theorem Fo.size_one (h : Hd) (k : Fo) : (Fo.one h k).size = 1 + k.size := rfl
theorem Fo.tops_size (fo : Fo) : fo.tops.length ≤ fo.size := by
  induction fo with
  | nil => exact Nat.zero_le _
  | cons h' k' r _ ih => simp only [Fo.tops, Fo.size, List.length_cons]; omega
/-- Each row of the pattern is no longer than n. -/
def Fo.Thin (n : Nat) : Fo → Prop
  | .nil => True
  | .cons h k r => (Fo.cons h k r).tops.length ≤ n ∧ k.Thin n ∧ r.Thin n
theorem Fo.thin {n : Nat} : ∀ fo : Fo, fo.size ≤ n → fo.Thin n
  | .nil, _ => trivial
  | .cons h k r, e => by
    have h1 := Fo.tops_size (.cons h k r)
    simp only [Fo.size] at e h1
    exact ⟨by omega, Fo.thin k (by omega), Fo.thin r (by omega)⟩
def RowCnt (row : PSt → Option (Fo × PSt)) : Prop := ∀ st fo st', row st = some (fo, st') → (fo.size : Int) + st.m ≤ st'.m
theorem mk_cnt {st st0 st' : PSt} {h h' : Hd} {k' : Fo} (e : mkS st0 h .nil = some ((h', k'), st')) (hm : st0.m = st.m) : 1 + (k'.size : Int) + st.m ≤ st'.m := by
  obtain ⟨-, rfl, hn⟩ := mkS_inv e
  obtain ⟨-, b, -⟩ := nodeS_mono hn
  simp only [Fo.size]
  omega
theorem partS_cnt {row : PSt → Option (Fo × PSt)} (hrow : RowCnt row) {st st' : PSt} {first begun : Bool} {h : Hd} {k : Fo}
    (e : partS row st first begun = some ((h, k), st')) : 1 + (k.size : Int) + st.m ≤ st'.m := by
  unfold partS at e
  split at e
  · cases e
  · split at e
    · unfold slashS at e
      simp only at e
      split at e
      · cases e
      · split at e
        · unfold groupS at e
          simp only at e
          split at e
          · split at e
            · cases e
            · rename_i st1 hn
              obtain ⟨-, n2, -⟩ := nodeS_mono hn
              simp only at n2
              split at e
              · cases e
              · rename_i kids st2 hr
                have hM := hrow _ _ _ hr
                split at e
                · cases e
                  simp only at hM ⊢
                  omega
                · cases e
          · cases e
        · split at e
          · split at e
            · exact mk_cnt e rfl
            · cases e
          · split at e
            · cases e
            · exact mk_cnt e rfl
    · split at e
      · split at e
        · cases e
        · exact mk_cnt e rfl
      · split at e
        · exact mk_cnt e rfl
        · split at e
          · exact mk_cnt e rfl
          · split at e
            · exact mk_cnt e rfl
            · split at e
              · cases e
              · exact mk_cnt e rfl
theorem timesS_cnt : ∀ (n : Nat) {st st' : PSt} {h h' : Hd} {k k' : Fo}, timesS n st h k = some ((h', k'), st') → (k'.size : Int) + st.m ≤ k.size + st'.m
  | 0, _, _, _, _, _, _, e => by simp [timesS] at e
  | n + 1, st, st', h, h', k, k', e => by
    unfold timesS at e
    split at e
    · split at e
      · cases e
      · rename_i st1 hn
        obtain ⟨-, n2, -⟩ := nodeS_mono hn
        have ih := timesS_cnt n e
        rw [Fo.size_one] at ih
        simp only at n2
        omega
    · split at e
      · split at e
        · cases e
        · split at e
          · cases e
          · rename_i st1 hn
            obtain ⟨-, n2, -⟩ := nodeS_mono hn
            have ih := timesS_cnt n e
            rw [Fo.size_one] at ih
            simp only at n2
            omega
      · cases e
        omega
theorem rowS_cnt : ∀ (n : Nat) (st : PSt) (acc fo : Fo) (st' : PSt), rowS n st acc = some (fo, st') → (fo.size : Int) + st.m ≤ acc.size + st'.m
  | 0, _, _, _, _, e => by simp [rowS] at e
  | n + 1, st, acc, fo, st', e => by
    unfold rowS at e
    split at e
    · cases e; omega
    · split at e
      · cases e
      · rename_i h k st1 hp
        have hM := partS_cnt (fun s f s' he => by have := rowS_cnt n s .nil f s' he; simp only [Fo.size] at this; omega) hp
        split at e
        · have := rowS_cnt n st1 _ fo st' e
          rw [Fo.size_snoc] at this
          omega
        · split at e
          · cases e
          · rename_i h2 k2 st2 ht
            have hT := timesS_cnt _ ht
            have := rowS_cnt n st2 _ fo st' e
            rw [Fo.size_snoc] at this
            omega
theorem breS_cnt {s : List UInt8} {fo : Fo} {st : PSt} (h : breS s = some (fo, st)) : (fo.size : Int) ≤ st.m := by
  unfold breS at h
  split at h
  · cases h
  · rename_i fo' st' hr
    split at h
    · cases h
      have := rowS_cnt _ _ _ _ _ hr
      simp only [Fo.size] at this
      omega
    · cases h
end Go.Proofs.YtkbfckigndkkkaaDoor
