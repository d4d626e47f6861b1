/-
  Plain: what the document's reader of patterns computes.
-/
import Derived.Test.YtkbfckigndkkkaaDoorRr2
import Derived.Test.YtkbfckigndkkkaaDoorBs
namespace Go.Proofs.YtkbfckigndkkkaaDoor
set_option linter.unusedSimpArgs false
set_option linter.unusedVariables false
open Go Go.RowKit

def rBad (s : ByteArray) (st : RSt) (m n : Int) (ok : Bool) : Bool := !ok || !rIs s st [92, 125] || (decide (0 ≤ n) && decide (n < m)) || decide (255 < m) || decide (255 < n)
/-- What stands between the braces, and where the reader is then. -/
def rBrace (s : ByteArray) (st1 : RSt) : Int × Int × RSt :=
  if rIs s (rDig s st1) [44] then
    (digVal (rDs s st1), (if rDs s { rDig s st1 with pl := (rDig s st1).pl + 1 } ≠ [] then digVal (rDs s { rDig s st1 with pl := (rDig s st1).pl + 1 }) else -1), rDig s { rDig s st1 with pl := (rDig s st1).pl + 1 })
  else (digVal (rDs s st1), digVal (rDs s st1), rDig s st1)
def rBraceBad (s : ByteArray) (st1 : RSt) : RSt := { (rBrace s st1).2.2 with bad := rBad s (rBrace s st1).2.2 (rBrace s st1).1 (rBrace s st1).2.1 (decide (rDs s st1 ≠ [])) }
def rTimes (s : ByteArray) : Nat → RSt → Hd → Fo → (Hd × Fo) × RSt
  | 0, st, h, k => ((h, k), st)
  | n + 1, st, h, k =>
    if st.bad then ((h, k), st)
    else if rIs s st [42] then rTimes s n (rNode st 1) ⟨8, 0, noS, 0, 0, -1⟩ (Fo.one h k)
    else if rIs s st [92, 123] then
      if (rBraceBad s { st with pl := st.pl + 2 }).bad then ((h, k), rBraceBad s { st with pl := st.pl + 2 })
      else rTimes s n (rNode (rBraceBad s { st with pl := st.pl + 2 }) 2) ⟨8, 0, noS, 0, (rBrace s { st with pl := st.pl + 2 }).1, (rBrace s { st with pl := st.pl + 2 }).2.1⟩ (Fo.one h k)
    else ((h, k), st)
def hd0 : Hd := ⟨0, 0, noS, 0, 0, 0⟩
def rGroup (row : RSt → Fo × RSt) (s : ByteArray) (st : RSt) : (Hd × Fo) × RSt :=
  if rIs s (row (rNode { st with g := st.g + 1 } 2)).2 [92, 41] = true ∧ st.g + 1 ≤ 9 then
    ((⟨7, 0, noS, ((st.g + 1 : Nat) : Int), 0, 0⟩, (row (rNode { st with g := st.g + 1 } 2)).1), { (row (rNode { st with g := st.g + 1 } 2)).2 with pl := (row (rNode { st with g := st.g + 1 } 2)).2.pl + 2, ended := upE (row (rNode { st with g := st.g + 1 } 2)).2.ended (st.g + 1) })
  else ((hd0, .nil), { (row (rNode { st with g := st.g + 1 } 2)).2 with bad := true })
def rSlash (row : RSt → Fo × RSt) (s : ByteArray) (st : RSt) : (Hd × Fo) × RSt :=
  match s.data.toList.drop (st.pl + 1) with
  | [] => ((hd0, .nil), { st with bad := true })
  | c :: _ =>
    if c = 40 then rGroup row s st
    else if 49 ≤ c.toNat ∧ c.toNat ≤ 57 then ((⟨6, 0, noS, (c.toNat : Int) - 48, 0, 0⟩, .nil), rNode { st with refs := true, bad := st.bad || !st.ended (c.toNat - 48) } 2)
    else ((⟨1, c, noS, 0, 0, 0⟩, .nil), rNode { st with bad := st.bad || decide (c = 41) || decide (c = 123) || decide (c = 125) } 2)
def rPart (row : RSt → Fo × RSt) (s : ByteArray) (st : RSt) (first begun : Bool) : (Hd × Fo) × RSt :=
  match s.data.toList.drop st.pl with
  | [] => ((hd0, .nil), st)
  | c :: _ =>
    if c = 92 then rSlash row s st
    else if c = 91 then
      match clsParse (s.data.toList.drop st.pl) with
      | none => ((hd0, .nil), { st with bad := true })
      | some (f, rest) => ((⟨3, 0, f, 0, 0, 0⟩, .nil), rNode st (s.size - rest.length - st.pl))
    else if c = 46 then ((⟨2, 0, noS, 0, 0, 0⟩, .nil), rNode st 1)
    else if c = 94 ∧ first = true then ((⟨4, 0, noS, 0, 0, 0⟩, .nil), rNode st 1)
    else if c = 36 ∧ (st.pl + 1 = s.size ∨ rIs s st [36, 92, 41] = true) then ((⟨5, 0, noS, 0, 0, 0⟩, .nil), rNode st 1)
    else ((⟨1, c, noS, 0, 0, 0⟩, .nil), rNode { st with bad := st.bad || (decide (c = 42) && !first && !begun) } 1)
def rRow (s : ByteArray) : Nat → RSt → Fo → Bool → Fo × RSt
  | 0, st, acc, _ => (acc, st)
  | n + 1, st, acc, begun =>
    if st.bad = false ∧ st.pl < s.size ∧ rIs s st [92, 41] = false ∧ st.g < 900 then
      let p := rPart (fun x => rRow s n x .nil false) s st (decide (acc.tops.length = 0)) begun
      let q := if p.2.bad = false ∧ p.1.1.kind ≠ 4 ∧ p.1.1.kind ≠ 5 then rTimes s (s.size + 1) p.2 p.1.1 p.1.2 else p
      rRow s n q.2 (acc.snoc q.1.1 q.1.2) (p.1.1.kind == 4)
    else (acc, st)

/-! ## Its bounds -/
theorem rIs_len {s : ByteArray} {st : RSt} {t : List UInt8} (h : rIs s st t = true) (ht : 0 < t.length) : st.pl + t.length ≤ s.size := by
  have := congrArg List.length ((has_iff _ _).1 h)
  rw [List.length_take, List.length_drop, ← bytes_len] at this
  omega
structure RLe (s : ByteArray) (a b : RSt) : Prop where
  pl : a.pl ≤ b.pl
  many : b.many ≤ a.many + (b.pl - a.pl)
  top : b.pl ≤ s.size
  g : a.g ≤ b.g
  g9 : b.g ≤ 900
theorem RLe.inv {s : ByteArray} {a b : RSt} (h : RLe s a b) (hI : RInv s a) : RInv s b := ⟨h.top, by have := h.many; have := h.pl; have := hI.many; omega, h.g9⟩
theorem RLe.refl {s : ByteArray} {a : RSt} (hI : RInv s a) : RLe s a a := ⟨Nat.le_refl _, by omega, hI.pl, Nat.le_refl _, hI.g⟩
theorem RLe.trans {s : ByteArray} {a b c : RSt} (h : RLe s a b) (k : RLe s b c) : RLe s a c :=
  ⟨Nat.le_trans h.pl k.pl, by have := h.many; have := k.many; have := h.pl; have := k.pl; omega, k.top, Nat.le_trans h.g k.g, k.g9⟩
theorem rDig_le {s : ByteArray} {st : RSt} (hI : RInv s st) : RLe s st (rDig s st) := by
  have := rDs_len s st hI.pl
  exact ⟨by simp [rDig], by simp only [rDig]; omega, by simpa [rDig] using this, Nat.le_refl _, hI.g⟩
theorem rBrace_le {s : ByteArray} {st : RSt} (hI : RInv s st) : RLe s st (rBrace s st).2.2 := by
  have h1 := rDig_le hI
  unfold rBrace
  split
  · rename_i h
    have hl := rIs_len h (by decide)
    have hI2 := h1.inv hI
    have hI3 : RInv s { rDig s st with pl := (rDig s st).pl + 1 } := ⟨by simpa using hl, by have := hI2.many; simp only; omega, hI2.g⟩
    have h3 := rDig_le hI3
    have h2 : RLe s (rDig s st) { rDig s st with pl := (rDig s st).pl + 1 } := ⟨by simp, by simp only; omega, by simpa using hl, Nat.le_refl _, hI2.g⟩
    exact (h1.trans h2).trans h3
  · exact h1
theorem rBraceBad_le {s : ByteArray} {st : RSt} (hI : RInv s st) : RLe s st (rBraceBad s st) := by
  have h := rBrace_le hI
  exact ⟨h.pl, h.many, h.top, h.g, h.g9⟩
theorem rNode_le {s : ByteArray} {st : RSt} {n : Nat} (hI : RInv s st) (h0 : 0 < n) (h : st.pl + n ≤ s.size) : RLe s st (rNode st n) := ⟨by simp [rNode], by simp only [rNode]; omega, by simpa [rNode] using h, Nat.le_refl _, hI.g⟩
theorem rBrace_bad {s : ByteArray} {st : RSt} (h : (rBraceBad s st).bad = false) : rIs s (rBraceBad s st) [92, 125] = true := by
  have h2 : rBad s (rBrace s st).2.2 (rBrace s st).1 (rBrace s st).2.1 (decide (rDs s st ≠ [])) = false := h
  unfold rBad at h2
  simp only [Bool.or_eq_false_iff, Bool.not_eq_false'] at h2
  exact h2.1.1.1.2
theorem rTimes_le (s : ByteArray) : ∀ (n : Nat) (st : RSt) (h : Hd) (k : Fo), RInv s st → RLe s st (rTimes s n st h k).2
  | 0, st, h, k, hI => RLe.refl hI
  | n + 1, st, h, k, hI => by
    unfold rTimes
    split
    · exact RLe.refl hI
    · split
      · rename_i h1
        have h2 := rNode_le (n := 1) hI (by decide) (rIs_len h1 (by decide))
        exact h2.trans (rTimes_le s n _ _ _ (h2.inv hI))
      · split
        · rename_i h1
          have hl := rIs_len h1 (by decide)
          simp only [List.length_cons, List.length_nil] at hl
          have hI2 : RInv s { st with pl := st.pl + 2 } := ⟨by simpa using hl, by have := hI.many; simp only; omega, hI.g⟩
          have h2 : RLe s st { st with pl := st.pl + 2 } := ⟨by simp, by simp only; omega, by simpa using hl, Nat.le_refl _, hI.g⟩
          have h3 := rBraceBad_le hI2
          split
          · exact h2.trans h3
          · rename_i hb
            have hI3 := h3.inv hI2
            have h4 := rNode_le (n := 2) hI3 (by decide) (rIs_len (rBrace_bad (by simpa using hb)) (by decide))
            exact ((h2.trans h3).trans h4).trans (rTimes_le s n _ _ _ (h4.inv hI3))
        · exact RLe.refl hI
end Go.Proofs.YtkbfckigndkkkaaDoor

/-
  Plain: the reader goes on, and stays within its bounds.
-/
namespace Go.Proofs.YtkbfckigndkkkaaDoor
open Go Go.RowKit

theorem RLe.field {s : ByteArray} {a b : RSt} (h : RLe s a b) (f : Nat → Bool) (r x : Bool) : RLe s a { b with ended := f, refs := r, bad := x } := ⟨h.pl, h.many, h.top, h.g, h.g9⟩
theorem rGroup_le {row : RSt → Fo × RSt} {s : ByteArray} {st : RSt} (hrow : ∀ x, RInv s x → RLe s x (row x).2) (hI : RInv s st) (hg : st.g < 900) (h2 : st.pl + 2 ≤ s.size) :
    RLe s st (rGroup row s st).2 ∧ ((rGroup row s st).2.bad = true ∨ st.pl < (rGroup row s st).2.pl) := by
  have hI0 : RInv s { st with g := st.g + 1 } := ⟨hI.pl, hI.many, by simp only; omega⟩
  have l0 : RLe s st { st with g := st.g + 1 } := ⟨Nat.le_refl _, by simp only; omega, hI.pl, by simp, by simp only; omega⟩
  have l1 := rNode_le (n := 2) hI0 (by decide) h2
  have l2 := hrow _ (l1.inv hI0)
  have l3 := (l0.trans l1).trans l2
  unfold rGroup
  split
  · rename_i h
    have hl := rIs_len h.1 (by decide)
    simp only [List.length_cons, List.length_nil, Nat.zero_add, Nat.reduceAdd] at hl
    have hI3 := l3.inv hI
    have l4 : RLe s (row (rNode { st with g := st.g + 1 } 2)).2 { (row (rNode { st with g := st.g + 1 } 2)).2 with pl := (row (rNode { st with g := st.g + 1 } 2)).2.pl + 2, ended := upE (row (rNode { st with g := st.g + 1 } 2)).2.ended (st.g + 1) } :=
      ⟨by simp, by simp only; omega, by simpa using hl, Nat.le_refl _, hI3.g⟩
    refine ⟨l3.trans l4, .inr ?_⟩
    have := l3.pl
    simp only; omega
  · exact ⟨l3.field _ _ _, .inl rfl⟩
theorem rSlash_le {row : RSt → Fo × RSt} {s : ByteArray} {st : RSt} (hrow : ∀ x, RInv s x → RLe s x (row x).2) (hI : RInv s st) (hg : st.g < 900) (h1 : st.pl < s.size) :
    RLe s st (rSlash row s st).2 ∧ ((rSlash row s st).2.bad = true ∨ st.pl < (rSlash row s st).2.pl) := by
  unfold rSlash
  split
  · exact ⟨(RLe.refl hI).field _ _ _, .inl rfl⟩
  · rename_i c t heq
    have h2 : st.pl + 2 ≤ s.size := by
      have := congrArg List.length heq
      rw [List.length_drop, ← bytes_len, List.length_cons] at this
      omega
    split
    · exact rGroup_le hrow hI hg h2
    · split
      · exact ⟨(rNode_le (n := 2) hI (by decide) h2).field _ _ _, .inr (by simp [rNode])⟩
      · exact ⟨(rNode_le (n := 2) hI (by decide) h2).field _ _ _, .inr (by simp [rNode])⟩
theorem rPart_le {row : RSt → Fo × RSt} {s : ByteArray} {st : RSt} (hrow : ∀ x, RInv s x → RLe s x (row x).2) (hI : RInv s st) (hg : st.g < 900) (h1 : st.pl < s.size) (first begun : Bool) :
    RLe s st (rPart row s st first begun).2 ∧ ((rPart row s st first begun).2.bad = true ∨ st.pl < (rPart row s st first begun).2.pl) := by
  have one : RLe s st (rNode st 1) ∧ ((rNode st 1).bad = true ∨ st.pl < (rNode st 1).pl) := ⟨rNode_le (n := 1) hI (by decide) h1, .inr (by simp [rNode])⟩
  have hdl : (s.data.toList.drop st.pl).length = s.size - st.pl := by rw [List.length_drop, ← bytes_len]
  unfold rPart
  split
  · rename_i heq
    rw [heq] at hdl
    simp at hdl; omega
  · rename_i c t heq
    split
    · exact rSlash_le hrow hI hg h1
    · split
      · split
        · exact ⟨(RLe.refl hI).field _ _ _, .inl rfl⟩
        · rename_i f rest hc
          have := clsParse_len hc
          refine ⟨rNode_le hI (by omega) (by omega), .inr ?_⟩
          simp only [rNode]; omega
      · split
        · exact one
        · split
          · exact one
          · split
            · exact one
            · exact ⟨one.1.field _ _ _, .inr (by simp [rNode])⟩
theorem rRow_le (s : ByteArray) : ∀ (n : Nat) (st : RSt) (acc : Fo) (begun : Bool), RInv s st → RLe s st (rRow s n st acc begun).2
  | 0, st, acc, begun, hI => RLe.refl hI
  | n + 1, st, acc, begun, hI => by
    unfold rRow
    split
    · rename_i hc
      have hp := (rPart_le (row := fun x => rRow s n x .nil false) (fun x hx => rRow_le s n x .nil false hx) hI hc.2.2.2 hc.2.1 (decide (acc.tops.length = 0)) begun).1
      dsimp only
      split
      · have ht := rTimes_le s (s.size + 1) _ (rPart (fun x => rRow s n x .nil false) s st (decide (acc.tops.length = 0)) begun).1.1 (rPart (fun x => rRow s n x .nil false) s st (decide (acc.tops.length = 0)) begun).1.2 (hp.inv hI)
        exact (hp.trans ht).trans (rRow_le s n _ _ _ ((hp.trans ht).inv hI))
      · exact hp.trans (rRow_le s n _ _ _ (hp.inv hI))
    · exact RLe.refl hI
end Go.Proofs.YtkbfckigndkkkaaDoor
