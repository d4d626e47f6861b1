/-
  Plain: the document's reader reads what the program's parser reads.
-/
import Derived.Test.YtkbfckigndkkkaaDoorRs
import Derived.Test.YtkbfckigndkkkaaDoorBw5
import Derived.Test.YtkbfckigndkkkaaDoorBw7
import Derived.Test.YtkbfckigndkkkaaDoorRr10
namespace Go.Proofs.YtkbfckigndkkkaaDoor
set_option linter.unusedSimpArgs false
set_option linter.unusedVariables false
open Go Go.RowKit

/-- The two states are the same one. -/
structure Live (s : ByteArray) (st : RSt) (p : PSt) : Prop where
  left : p.left = s.data.toList.drop st.pl
  g : p.g = st.g
  m : p.m = st.many
  r : p.r = st.refs
  bad : st.bad = false
  g9 : st.g ≤ 9
  m2 : st.many ≤ 200
  pl : st.pl ≤ s.size
  ended : ∀ n, st.ended n = true ↔ (1 ≤ n ∧ n ≤ st.g ∧ (n : Int) ∉ p.opn)
  opn : ∀ x ∈ p.opn, x ≤ p.g
def Dead (st : RSt) : Prop := st.bad = true ∨ 9 < st.g ∨ 200 < st.many
structure Up (a b : RSt) : Prop where
  bad : a.bad = true → b.bad = true
  g : a.g ≤ b.g
  m : a.many ≤ b.many
theorem Up.refl (a : RSt) : Up a a := ⟨id, Nat.le_refl _, Nat.le_refl _⟩
theorem Up.trans {a b c : RSt} (h : Up a b) (k : Up b c) : Up a c := ⟨fun x => k.bad (h.bad x), Nat.le_trans h.g k.g, Nat.le_trans h.m k.m⟩
theorem Dead.up {a b : RSt} (h : Dead a) (k : Up a b) : Dead b := by
  rcases h with h | h | h
  · exact .inl (k.bad h)
  · exact .inr (.inl (Nat.lt_of_lt_of_le h k.g))
  · exact .inr (.inr (Nat.lt_of_lt_of_le h k.m))
def Agree (s : ByteArray) : Option ((Hd × Fo) × PSt) → (Hd × Fo) × RSt → Prop
  | some (x, p'), y => y.1 = x ∧ Live s y.2 p'
  | none, y => Dead y.2
def AgreeR (s : ByteArray) : Option (Fo × PSt) → Fo × RSt → Prop
  | some (x, p'), y => y.1 = x ∧ Live s y.2 p'
  | none, y => Dead y.2
theorem rNode_up (st : RSt) (n : Nat) : Up st (rNode st n) := ⟨id, Nat.le_refl _, by simp [rNode]⟩
theorem mk_law {s : ByteArray} {st : RSt} {p : PSt} (hL : Live s st p) (n : Nat) (l : List UInt8) (hl : l = s.data.toList.drop (st.pl + n)) (hpl : st.pl + n ≤ s.size) (r : Bool) (h : Hd) (k : Fo) :
    Agree s (mkS { p with left := l, r := r } h k) ((h, k), rNode { st with refs := r } n) := by
  by_cases hm : st.many + 1 ≤ 200
  · have e : mkS { p with left := l, r := r } h k = some ((h, k), { p with left := l, r := r, m := p.m + 1 }) := by
      simp only [mkS, nodeS]
      rw [if_pos (by rw [hL.m]; omega)]; rfl
    rw [e]
    refine ⟨rfl, ⟨hl, hL.g, ?_, rfl, hL.bad, hL.g9, hm, hpl, hL.ended, hL.opn⟩⟩
    simp only [rNode, hL.m]; omega
  · have e : mkS { p with left := l, r := r } h k = none := by
      simp only [mkS, nodeS]
      rw [if_neg (by rw [hL.m]; omega)]; rfl
    rw [e]
    exact .inr (.inr (by simp only [rNode]; omega))
/-! ## Repetitions -/
theorem num_dig : ∀ (l : List UInt8) (a b : Int), 0 ≤ b → a = min b 256 → (∀ c ∈ l, isDig c = true) → l.foldl (fun (n : Int) (c : UInt8) => min (10 * n + ((c.toNat : Int) - 48)) 256) a = min (l.foldl digStep b) 256 := by
  intro l
  induction l with
  | nil => intro a b _ h _; exact h
  | cons c l ih =>
    intro a b hb h hd
    have hc := hd c (by simp)
    unfold isDig between at hc
    simp only [Bool.and_eq_true, decide_eq_true_eq] at hc
    refine ih _ _ (by unfold digStep; omega) (by unfold digStep; dsimp only; omega) fun x hx => hd x (by simp [hx])
theorem numVal_dig (s : ByteArray) (st : RSt) : numVal (rDs s st) = min (digVal (rDs s st)) 256 :=
  num_dig _ 0 0 (by omega) (by omega) fun c hc => tw_all _ _ c hc
theorem drop_while {s : ByteArray} {st : RSt} : (s.data.toList.drop st.pl).dropWhile isDig = s.data.toList.drop (rDig s st).pl := by
  have h : (s.data.toList.drop st.pl).dropWhile isDig = (s.data.toList.drop st.pl).drop (rDs s st).length := by
    unfold rDs
    generalize s.data.toList.drop st.pl = l
    induction l with
    | nil => rfl
    | cons a l ih =>
      by_cases ha : isDig a = true
      · rw [List.dropWhile_cons_of_pos ha, List.takeWhile_cons_of_pos ha]; simpa using ih
      · rw [List.dropWhile_cons_of_neg ha, List.takeWhile_cons_of_neg ha]; rfl
  rw [h, List.drop_drop]; rfl
theorem rBrace_up (s : ByteArray) (st : RSt) (hb : st.bad = false) : Up st (rBraceBad s st) := by
  have h : Up st (rBrace s st).2.2 := by
    unfold rBrace
    split
    · exact ⟨(fun h => by rw [hb] at h; cases h), Nat.le_refl _, Nat.le_refl _⟩
    · exact ⟨(fun h => by rw [hb] at h; cases h), Nat.le_refl _, Nat.le_refl _⟩
  exact ⟨(fun h => by rw [hb] at h; cases h), h.g, h.m⟩
theorem rTimes_up (s : ByteArray) : ∀ (n : Nat) (st : RSt) (h : Hd) (k : Fo), Up st (rTimes s n st h k).2
  | 0, st, h, k => Up.refl _
  | n + 1, st, h, k => by
    unfold rTimes
    split
    · exact Up.refl _
    · rename_i hb
      split
      · exact (rNode_up st 1).trans (rTimes_up s n _ _ _)
      · split
        · have h2 : Up st { st with pl := st.pl + 2 } := ⟨id, Nat.le_refl _, Nat.le_refl _⟩
          have h3 := h2.trans (rBrace_up s { st with pl := st.pl + 2 } (by simpa using hb))
          split
          · exact h3
          · exact (h3.trans (rNode_up _ 2)).trans (rTimes_up s n _ _ _)
        · exact Up.refl _
theorem bad_iff {s : ByteArray} {st : RSt} {ok : Bool} {m' n' m n : Int} (hm : m = min m' 256) (hn : n = min n' 256) :
    (ok = true ∧ rIs s st [92, 125] = true ∧ m ≤ 255 ∧ n ≤ 255 ∧ (n < 0 ∨ m ≤ n)) ↔ rBad s st m' n' ok = false := by
  unfold rBad
  cases ok
  · simp
  · cases rIs s st [92, 125]
    · simp
    · simp only [Bool.not_true, Bool.false_or, Bool.or_eq_false_iff, Bool.and_eq_false_iff, decide_eq_false_iff_not, true_and]
      omega
/-- What the braces hold, either way. -/
theorem brace_law {s : ByteArray} {st : RSt} {p : PSt} (hL : Live s st p) :
    match braceS p.left with
    | none => (rBraceBad s st).bad = true
    | some (a, b, l) => (rBraceBad s st).bad = false ∧ (rBrace s st).1 = a ∧ (rBrace s st).2.1 = b ∧ l = s.data.toList.drop ((rBraceBad s st).pl + 2) ∧ (rBraceBad s st).g = st.g ∧ (rBraceBad s st).many = st.many ∧ (rBraceBad s st).refs = st.refs ∧ (rBraceBad s st).ended = st.ended := by
  have e1 : (s.data.toList.drop st.pl).takeWhile isDig = rDs s st := rfl
  have e2 := drop_while (s := s) (st := st)
  have hnv := numVal_dig s st
  rw [hL.left]
  unfold braceS
  dsimp only
  rw [e1, e2]
  cases hc : Lib.hasPrefix (s.data.toList.drop (rDig s st).pl) [44] with
  | true =>
    have hr : rBrace s st = (digVal (rDs s st), (if rDs s { rDig s st with pl := (rDig s st).pl + 1 } ≠ [] then digVal (rDs s { rDig s st with pl := (rDig s st).pl + 1 }) else -1), rDig s { rDig s st with pl := (rDig s st).pl + 1 }) := by
      unfold rBrace; rw [if_pos (show rIs s (rDig s st) [44] = true from hc)]
    have e3 : (s.data.toList.drop (rDig s st).pl).drop 1 = s.data.toList.drop ({ rDig s st with pl := (rDig s st).pl + 1 } : RSt).pl := by rw [List.drop_drop]
    have hnv2 := numVal_dig s { rDig s st with pl := (rDig s st).pl + 1 }
    have e4 := drop_while (s := s) (st := { rDig s st with pl := (rDig s st).pl + 1 })
    have e5 : (s.data.toList.drop ({ rDig s st with pl := (rDig s st).pl + 1 } : RSt).pl).takeWhile isDig = rDs s { rDig s st with pl := (rDig s st).pl + 1 } := rfl
    simp only [if_true]
    rw [e3, e4, e5]
    have hst : ({ rDig s st with pl := (rDig s st).pl + 1 } : RSt).g = st.g ∧ ({ rDig s st with pl := (rDig s st).pl + 1 } : RSt).many = st.many ∧ ({ rDig s st with pl := (rDig s st).pl + 1 } : RSt).refs = st.refs ∧ ({ rDig s st with pl := (rDig s st).pl + 1 } : RSt).ended = st.ended := ⟨rfl, rfl, rfl, rfl⟩
    generalize ({ rDig s st with pl := (rDig s st).pl + 1 } : RSt) = sb at *
    have hn : (if rDs s sb ≠ [] then numVal (rDs s sb) else -1) = min (if rDs s sb ≠ [] then digVal (rDs s sb) else -1) 256 := by split <;> omega
    generalize (if rDs s sb ≠ [] then numVal (rDs s sb) else -1) = nv at *
    generalize (if rDs s sb ≠ [] then digVal (rDs s sb) else -1) = nv' at *
    have hb := bad_iff (s := s) (st := rDig s sb) (ok := decide (rDs s st ≠ [])) hnv hn
    have hbb : (rBraceBad s st).bad = rBad s (rDig s sb) (digVal (rDs s st)) nv' (decide (rDs s st ≠ [])) := by unfold rBraceBad; rw [hr]
    have hpl : (rBraceBad s st).pl = (rDig s sb).pl := by unfold rBraceBad; rw [hr]
    have hf : (rBraceBad s st).g = st.g ∧ (rBraceBad s st).many = st.many ∧ (rBraceBad s st).refs = st.refs ∧ (rBraceBad s st).ended = st.ended := by unfold rBraceBad; rw [hr]; exact hst
    rw [hbb, hpl, hr]
    split
    · rename_i heq
      split at heq
      · cases heq
      · rename_i hno
        cases hq : rBad s (rDig s sb) (digVal (rDs s st)) nv' (decide (rDs s st ≠ [])) with
        | true => rfl
        | false =>
          obtain ⟨h1, h2, h3, h4, h5⟩ := hb.2 hq
          exact absurd ⟨of_decide_eq_true h1, h2, h3, h4, h5⟩ hno
    · rename_i heq
      split at heq
      · rename_i hyes
        obtain ⟨h1, h2, h3, h4, h5⟩ := hyes
        cases heq
        exact ⟨hb.1 ⟨decide_eq_true h1, h2, h3, h4, h5⟩, by dsimp only; omega, by dsimp only; omega, by rw [List.drop_drop], hf⟩
      · cases heq
  | false =>
    have hr : rBrace s st = (digVal (rDs s st), digVal (rDs s st), rDig s st) := by
      unfold rBrace; rw [if_neg (show ¬ rIs s (rDig s st) [44] = true by unfold rIs; rw [hc]; simp)]
    simp only [Bool.false_eq_true, if_false]
    have hb := bad_iff (s := s) (st := rDig s st) (ok := decide (rDs s st ≠ [])) hnv hnv
    have hbb : (rBraceBad s st).bad = rBad s (rDig s st) (digVal (rDs s st)) (digVal (rDs s st)) (decide (rDs s st ≠ [])) := by unfold rBraceBad; rw [hr]
    have hpl : (rBraceBad s st).pl = (rDig s st).pl := by unfold rBraceBad; rw [hr]
    have hf : (rBraceBad s st).g = st.g ∧ (rBraceBad s st).many = st.many ∧ (rBraceBad s st).refs = st.refs ∧ (rBraceBad s st).ended = st.ended := by unfold rBraceBad; rw [hr]; exact ⟨rfl, rfl, rfl, rfl⟩
    rw [hbb, hpl, hr]
    split
    · rename_i heq
      split at heq
      · cases heq
      · rename_i hno
        cases hq : rBad s (rDig s st) (digVal (rDs s st)) (digVal (rDs s st)) (decide (rDs s st ≠ [])) with
        | true => rfl
        | false =>
          obtain ⟨h1, h2, h3, h4, h5⟩ := hb.2 hq
          exact absurd ⟨of_decide_eq_true h1, h2, h3, h4, h5⟩ hno
    · rename_i heq
      split at heq
      · rename_i hyes
        obtain ⟨h1, h2, h3, h4, h5⟩ := hyes
        cases heq
        exact ⟨hb.1 ⟨decide_eq_true h1, h2, h3, h4, h5⟩, by dsimp only; omega, by dsimp only; omega, by rw [List.drop_drop], hf⟩
      · cases heq
theorem Live.at {s : ByteArray} {st st' : RSt} {p : PSt} (hL : Live s st p) (hg : st'.g = st.g) (hm : st'.many = st.many) (hr : st'.refs = st.refs) (he : st'.ended = st.ended) (hb : st'.bad = false) (hp : st'.pl ≤ s.size) (l : List UInt8) (hl : l = s.data.toList.drop st'.pl) :
    Live s st' { p with left := l } :=
  ⟨hl, by rw [hg]; exact hL.g, by rw [hm]; exact hL.m, by rw [hr]; exact hL.r, hb, by rw [hg]; exact hL.g9, by rw [hm]; exact hL.m2, hp, fun n => by rw [he, hg]; exact hL.ended n, hL.opn⟩
theorem Live.is {s : ByteArray} {st : RSt} {p : PSt} (hL : Live s st p) (t : List UInt8) : rIs s st t = Lib.hasPrefix p.left t := by rw [hL.left]; rfl
theorem Live.len {s : ByteArray} {st : RSt} {p : PSt} (hL : Live s st p) : p.left.length = s.size - st.pl := by rw [hL.left, List.length_drop, ← bytes_len]
theorem node_law {s : ByteArray} {st : RSt} {p : PSt} (hL : Live s st p) (n : Nat) (l : List UInt8) (hl : l = s.data.toList.drop (st.pl + n)) (hpl : st.pl + n ≤ s.size) :
    match nodeS { p with left := l } with | none => Dead (rNode st n) | some p' => Live s (rNode st n) p' := by
  by_cases hm : st.many + 1 ≤ 200
  · have e : nodeS { p with left := l } = some { p with left := l, m := p.m + 1 } := by
      simp only [nodeS]
      rw [if_pos (by rw [hL.m]; omega)]
    rw [e]
    refine ⟨hl, hL.g, ?_, hL.r, hL.bad, hL.g9, hm, hpl, hL.ended, hL.opn⟩
    simp only [rNode, hL.m]; omega
  · have e : nodeS { p with left := l } = none := by
      simp only [nodeS]
      rw [if_neg (by rw [hL.m]; omega)]
    rw [e]
    exact .inr (.inr (by simp only [rNode]; omega))
theorem times_law (s : ByteArray) : ∀ (n m : Nat) (st : RSt) (p : PSt) (h : Hd) (k : Fo), Live s st p → p.left.length < n → s.size - st.pl < m → Agree s (timesS n p h k) (rTimes s m st h k)
  | 0, _, _, _, _, _, _, hn, _ => by omega
  | _ + 1, 0, _, _, _, _, _, _, hm => by omega
  | n + 1, m + 1, st, p, h, k, hL, hn, hm => by
    have hlen := hL.len
    unfold timesS rTimes
    rw [if_neg (show ¬ st.bad = true by rw [hL.bad]; simp), hL.is, hL.is]
    split
    · rename_i hs
      have h1 := hasPrefix_len hs
      simp only [List.length_singleton] at h1
      have hd : p.left.drop 1 = s.data.toList.drop (st.pl + 1) := by rw [hL.left, List.drop_drop]
      have hN := node_law hL 1 _ hd (by omega)
      cases hq : nodeS { p with left := p.left.drop 1 } with
      | none => rw [hq] at hN; exact hN.up (rTimes_up s m _ _ _)
      | some p' =>
        rw [hq] at hN
        have := hN.len
        exact times_law s n m _ _ _ _ hN (by simp only [rNode] at this; omega) (by simp only [rNode]; omega)
    · split
      · rename_i hs
        have h1 := hasPrefix_len hs
        simp only [List.length_cons, List.length_nil, Nat.zero_add, Nat.reduceAdd] at h1
        have hd : p.left.drop 2 = s.data.toList.drop (st.pl + 2) := by rw [hL.left, List.drop_drop]
        have hL2 : Live s { st with pl := st.pl + 2 } { p with left := p.left.drop 2 } := hL.at (st' := { st with pl := st.pl + 2 }) rfl rfl rfl rfl hL.bad (by simp only; omega) _ hd
        have hI2 := hL2.pl
        have hB := brace_law hL2
        dsimp only at hB
        cases hq : braceS (p.left.drop 2) with
        | none =>
          rw [hq] at hB
          dsimp only at hB ⊢
          rw [if_pos hB]
          exact .inl hB
        | some r =>
          obtain ⟨a, b, l⟩ := r
          rw [hq] at hB
          dsimp only at hB ⊢
          obtain ⟨b1, b2, b3, b4, b5, b6, b7, b8⟩ := hB
          rw [if_neg (by rw [b1]; simp), b2, b3]
          have hx := rIs_len (rBrace_bad b1) (by decide)
          simp only [List.length_cons, List.length_nil, Nat.zero_add, Nat.reduceAdd] at hx
          have hge : st.pl + 2 ≤ (rBraceBad s { st with pl := st.pl + 2 }).pl := by
            have : ∀ x : RSt, x.pl ≤ (rBraceBad s x).pl := fun x => by
              show x.pl ≤ (rBrace s x).2.2.pl
              unfold rBrace
              split <;> simp only [rDig] <;> omega
            exact this { st with pl := st.pl + 2 }
          have hL3 : Live s (rBraceBad s { st with pl := st.pl + 2 }) { p with left := s.data.toList.drop (rBraceBad s { st with pl := st.pl + 2 }).pl } := hL2.at b5 b6 b7 b8 b1 (by omega) _ rfl
          have hN := node_law hL3 2 _ b4 hx
          dsimp only at hN
          cases hq2 : nodeS { p with left := l } with
          | none => rw [hq2] at hN; exact hN.up (rTimes_up s m _ _ _)
          | some p' =>
            rw [hq2] at hN
            have := hN.len
            exact times_law s n m _ _ _ _ hN (by simp only [rNode] at this; omega) (by simp only [rNode]; omega)
      · exact ⟨rfl, hL⟩
theorem times_kind : ∀ (n : Nat) (p : PSt) (h : Hd) (k : Fo) (h' : Hd) (k' : Fo) (p' : PSt), timesS n p h k = some ((h', k'), p') → h'.kind = h.kind ∨ h'.kind = 8
  | 0, p, h, k, h', k', p', e => by cases e
  | n + 1, p, h, k, h', k', p', e => by
    unfold timesS at e
    split at e
    · split at e
      · cases e
      · rcases times_kind n _ _ _ _ _ _ e with h | h
        · exact .inr h
        · exact .inr h
    · split at e
      · split at e
        · cases e
        · split at e
          · cases e
          · rcases times_kind n _ _ _ _ _ _ e with h | h
            · exact .inr h
            · exact .inr h
      · cases e; exact .inl rfl
end Go.Proofs.YtkbfckigndkkkaaDoor

/-
  Plain: the document's reader reads what the program's parser reads: parts and rows.
-/
namespace Go.Proofs.YtkbfckigndkkkaaDoor
set_option linter.unusedSimpArgs false
set_option linter.unusedVariables false
open Go Go.RowKit

theorem rGroup_up {row : RSt → Fo × RSt} {s : ByteArray} {st : RSt} (hrow : ∀ x, Up x (row x).2) : Up st (rGroup row s st).2 := by
  have h0 : Up st { st with g := st.g + 1 } := ⟨id, by simp, Nat.le_refl _⟩
  have h1 := (h0.trans (rNode_up _ 2)).trans (hrow _)
  unfold rGroup
  split
  · exact ⟨h1.bad, h1.g, h1.m⟩
  · exact ⟨fun _ => rfl, h1.g, h1.m⟩
theorem rSlash_up {row : RSt → Fo × RSt} {s : ByteArray} {st : RSt} (hrow : ∀ x, Up x (row x).2) : Up st (rSlash row s st).2 := by
  unfold rSlash
  split
  · exact ⟨fun _ => rfl, Nat.le_refl _, Nat.le_refl _⟩
  · split
    · exact rGroup_up hrow
    · split
      · exact ⟨fun h => by simp [rNode, h], Nat.le_refl _, by simp [rNode]⟩
      · exact ⟨fun h => by simp [rNode, h], Nat.le_refl _, by simp [rNode]⟩
theorem rPart_up {row : RSt → Fo × RSt} {s : ByteArray} {st : RSt} (hrow : ∀ x, Up x (row x).2) (first begun : Bool) : Up st (rPart row s st first begun).2 := by
  unfold rPart
  split
  · exact Up.refl _
  · split
    · exact rSlash_up hrow
    · split
      · split
        · exact ⟨fun _ => rfl, Nat.le_refl _, Nat.le_refl _⟩
        · exact rNode_up _ _
      · split
        · exact rNode_up _ _
        · split
          · exact rNode_up _ _
          · split
            · exact rNode_up _ _
            · exact ⟨fun h => by simp [rNode, h], Nat.le_refl _, by simp [rNode]⟩
theorem rRow_up (s : ByteArray) : ∀ (n : Nat) (st : RSt) (acc : Fo) (begun : Bool), Up st (rRow s n st acc begun).2
  | 0, st, acc, begun => Up.refl _
  | n + 1, st, acc, begun => by
    unfold rRow
    split
    · have hp := rPart_up (s := s) (st := st) (row := fun x => rRow s n x .nil false) (fun x => rRow_up s n x .nil false) (decide (acc.tops.length = 0)) begun
      dsimp only
      split
      · exact (hp.trans (rTimes_up s _ _ _ _)).trans (rRow_up s n _ _ _)
      · exact hp.trans (rRow_up s n _ _ _)
    · exact Up.refl _
theorem rRow_bad2 (s : ByteArray) (m : Nat) (st : RSt) (acc : Fo) (begun : Bool) (h : st.bad = true) : rRow s m st acc begun = (acc, st) := by
  cases m with
  | zero => rfl
  | succ m => rw [rRow, if_neg (by rw [h]; simp)]
def RowLaw (s : ByteArray) (n m : Nat) : Prop := ∀ (st : RSt) (p : PSt), Live s st p → p.left.length < n → s.size - st.pl < m → AgreeR s (rowS n p .nil) (rRow s m st .nil false)
theorem group_law {s : ByteArray} {n m : Nat} (hrow : RowLaw s n m) {st : RSt} {p : PSt} (hL : Live s st p) (h2 : st.pl + 2 ≤ s.size) (hn : s.size - (st.pl + 2) < n) (hm : s.size - (st.pl + 2) < m) :
    Agree s (groupS (fun x => rowS n x .nil) { p with left := s.data.toList.drop (st.pl + 2) }) (rGroup (fun x => rRow s m x .nil false) s st) := by
  unfold groupS
  have hup : Up (rNode { st with g := st.g + 1 } 2) (rRow s m (rNode { st with g := st.g + 1 } 2) .nil false).2 := rRow_up s m _ _ _
  have hdead : Dead (rNode { st with g := st.g + 1 } 2) → Dead (rGroup (fun x => rRow s m x .nil false) s st).2 := by
    intro hd
    have hd2 := hd.up hup
    unfold rGroup
    split
    · exact hd2
    · exact .inl rfl
  have hgp := hL.g
  by_cases hg : st.g + 1 ≤ 9
  · rw [if_pos (by simp only; omega)]
    by_cases hm2 : st.many + 1 ≤ 200
    · have e : nodeS { { p with left := s.data.toList.drop (st.pl + 2) } with g := p.g + 1 } = some { left := s.data.toList.drop (st.pl + 2), g := p.g + 1, m := p.m + 1, r := p.r, opn := p.opn } := by
        simp only [nodeS]
        rw [if_pos (by rw [hL.m]; omega)]
      rw [e]
      dsimp only
      have hopn : ∀ x ∈ p.opn, x ≤ p.g := hL.opn
      have hLi : Live s (rNode { st with g := st.g + 1 } 2) { left := s.data.toList.drop (st.pl + 2), g := p.g + 1, m := p.m + 1, r := p.r, opn := p.opn ++ [p.g + 1] } := by
        refine ⟨rfl, by simp only [rNode]; omega, by simp only [rNode, hL.m]; omega, hL.r, hL.bad, hg, hm2, h2, fun k => ?_, fun x hx => ?_⟩
        · simp only [rNode]
          rw [hL.ended k]
          simp only [List.mem_append, List.mem_singleton, not_or]
          constructor
          · rintro ⟨a, b, c⟩; exact ⟨a, by omega, c, by omega⟩
          · rintro ⟨a, b, c, d⟩; exact ⟨a, by omega, c⟩
        · simp only [List.mem_append, List.mem_singleton] at hx
          simp only
          rcases hx with hx | hx
          · have := hopn x hx; omega
          · omega
      have hlen := hLi.len
      have hR := hrow _ _ hLi (by rw [hlen]; simp only [rNode]; omega) (by simp only [rNode]; omega)
      cases hq : rowS n { left := s.data.toList.drop (st.pl + 2), g := p.g + 1, m := p.m + 1, r := p.r, opn := p.opn ++ [p.g + 1] } .nil with
      | none =>
        rw [hq] at hR
        dsimp only
        unfold rGroup
        split
        · exact hR
        · exact .inl rfl
      | some r =>
        obtain ⟨kids, p2⟩ := r
        rw [hq] at hR
        obtain ⟨hk, hL2⟩ := hR
        have hmono := rowS_mono n _ .nil kids p2 (by rw [hL.m] at *; simp only; omega) (by simp only; omega) hq
        have hopn2 : p2.opn = p.opn ++ [p.g + 1] := hmono.o
        have hg2 := hmono.g
        simp only at hg2
        dsimp only
        unfold rGroup
        rw [hL2.is [92, 41]]
        by_cases hc : Lib.hasPrefix p2.left [92, 41] = true
        · rw [if_pos hc, if_pos ⟨hc, hg⟩]
          have hcl := hasPrefix_len hc
          have hlen2 := hL2.len
          simp only [List.length_cons, List.length_nil, Nat.zero_add, Nat.reduceAdd] at hcl
          have hge9 : ((st.g + 1 : Nat) : Int) = p.g + 1 := by omega
          refine ⟨by rw [hk, hge9], ?_, hL2.g, hL2.m, hL2.r, hL2.bad, hL2.g9, hL2.m2, by simp only; omega, fun k => ?_, fun x hx => ?_⟩
          · rw [hL2.left, List.drop_drop]
          · simp only [upE]
            have hge := hL2.g
            rw [hopn2, List.dropLast_concat]
            by_cases hk1 : k = st.g + 1
            · subst hk1
              rw [if_pos rfl]
              constructor
              · intro _
                refine ⟨by omega, by omega, fun hx => ?_⟩
                have := hopn _ hx
                omega
              · intro _; rfl
            · rw [if_neg hk1, hL2.ended k, hopn2]
              simp only [List.mem_append, List.mem_singleton, not_or]
              constructor
              · rintro ⟨a, b, c, d⟩; exact ⟨a, b, c⟩
              · rintro ⟨a, b, c⟩; exact ⟨a, b, c, by omega⟩
          · simp only at hx ⊢
            rw [hopn2, List.dropLast_concat] at hx
            have := hopn x hx
            omega
        · rw [if_neg hc, if_neg (by rintro ⟨h, -⟩; exact hc h)]
          exact .inl rfl
    · have e : nodeS { { p with left := s.data.toList.drop (st.pl + 2) } with g := p.g + 1 } = none := by
        simp only [nodeS]
        rw [if_neg (by rw [hL.m]; omega)]
      rw [e]
      exact hdead (.inr (.inr (by simp only [rNode]; omega)))
  · rw [if_neg (by simp only; omega)]
    exact hdead (.inr (.inl (by simp only [rNode]; omega)))
theorem slash_law {s : ByteArray} {n m : Nat} (hrow : RowLaw s n m) {st : RSt} {p : PSt} (hL : Live s st p) (h1 : st.pl < s.size) (hn : s.size - (st.pl + 2) < n) (hm : s.size - (st.pl + 2) < m) :
    Agree s (slashS (fun x => rowS n x .nil) { p with left := s.data.toList.drop (st.pl + 1) }) (rSlash (fun x => rRow s m x .nil false) s st) := by
  unfold slashS rSlash
  dsimp only
  have hlen : (s.data.toList.drop (st.pl + 1)).length = s.size - (st.pl + 1) := by rw [List.length_drop, ← bytes_len]
  cases hd : s.data.toList.drop (st.pl + 1) with
  | nil => exact .inl rfl
  | cons c t =>
    rw [hd, List.length_cons] at hlen
    have h2 : st.pl + 2 ≤ s.size := by omega
    have ht : t = s.data.toList.drop (st.pl + 2) := by
      have := congrArg (List.drop 1) hd
      rw [List.drop_drop] at this
      exact this.symm
    dsimp only
    rw [ht]
    have hgp := hL.g
    by_cases h40 : c = 40
    · rw [if_pos h40, if_pos h40]
      exact group_law hrow hL h2 hn hm
    · rw [if_neg h40, if_neg h40]
      by_cases hdg : 49 ≤ c.toNat ∧ c.toNat ≤ 57
      · rw [if_pos hdg, if_pos hdg]
        have hc : ((c.toNat - 48 : Nat) : Int) = (c.toNat : Int) - 48 := by omega
        have hE := hL.ended (c.toNat - 48)
        rw [hc] at hE
        by_cases hok : (c.toNat : Int) - 48 ≤ p.g ∧ ((c.toNat : Int) - 48) ∉ p.opn
        · rw [if_pos hok]
          have he : st.ended (c.toNat - 48) = true := hE.2 ⟨by omega, by omega, hok.2⟩
          have hb : ({ st with refs := true, bad := st.bad || !st.ended (c.toNat - 48) } : RSt) = { st with refs := true } := by rw [he, hL.bad]; simp [hL.bad]
          rw [hb]
          exact mk_law hL 2 _ rfl h2 true _ _
        · rw [if_neg hok]
          refine .inl ?_
          simp only [rNode]
          cases he : st.ended (c.toNat - 48) with
          | false => simp
          | true =>
            obtain ⟨a, b, d⟩ := hE.1 he
            exact absurd ⟨by omega, d⟩ hok
      · rw [if_neg hdg, if_neg hdg]
        by_cases h3 : c = 123 ∨ c = 125 ∨ c = 41
        · rw [if_pos h3]
          refine .inl ?_
          simp only [rNode]
          rcases h3 with h | h | h <;> rw [h] <;> simp
        · rw [if_neg h3]
          rw [not_or, not_or] at h3
          have hb : ({ st with bad := st.bad || decide (c = 41) || decide (c = 123) || decide (c = 125) } : RSt) = { st with refs := st.refs } := by
            rw [decide_eq_false h3.2.2, decide_eq_false h3.1, decide_eq_false h3.2.1]; simp
          rw [hb]
          have := mk_law hL 2 (s.data.toList.drop (st.pl + 2)) rfl h2 p.r ⟨1, c, noS, 0, 0, 0⟩ .nil
          rw [hL.r] at this
          have e : ({ p with left := s.data.toList.drop (st.pl + 2), r := st.refs } : PSt) = { p with left := s.data.toList.drop (st.pl + 2) } := by rw [← hL.r]
          rw [e] at this
          exact this
theorem mk_law' {s : ByteArray} {st : RSt} {p : PSt} (hL : Live s st p) (n : Nat) (l : List UInt8) (hl : l = s.data.toList.drop (st.pl + n)) (hpl : st.pl + n ≤ s.size) (h : Hd) (k : Fo) : Agree s (mkS { p with left := l } h k) ((h, k), rNode st n) := by
  have := mk_law hL n l hl hpl p.r h k
  rw [hL.r] at this
  have e : ({ p with left := l, r := st.refs } : PSt) = { p with left := l } := by rw [← hL.r]
  rw [e] at this
  exact this
theorem part_law {s : ByteArray} {n m : Nat} (hrow : RowLaw s n m) {st : RSt} {p : PSt} (hL : Live s st p) (h1 : st.pl < s.size) (hn : s.size - (st.pl + 2) < n) (hm : s.size - (st.pl + 2) < m) (first begun : Bool) :
    Agree s (partS (fun x => rowS n x .nil) p first begun) (rPart (fun x => rRow s m x .nil false) s st first begun) := by
  have hlen := hL.len
  unfold partS rPart
  cases hd : s.data.toList.drop st.pl with
  | nil => rw [hL.left, hd] at hlen; simp at hlen; omega
  | cons c t =>
    have hleft : p.left = c :: t := by rw [hL.left, hd]
    have ht : t = s.data.toList.drop (st.pl + 1) := by
      have := congrArg (List.drop 1) hd
      rw [List.drop_drop] at this
      exact this.symm
    rw [hleft]
    dsimp only
    by_cases h92 : c = 92
    · rw [if_pos h92, if_pos h92, ht]
      exact slash_law hrow hL h1 hn hm
    rw [if_neg h92, if_neg h92]
    by_cases h91 : c = 91
    · rw [if_pos h91, if_pos h91, ← hd]
      cases hq : clsParse (s.data.toList.drop st.pl) with
      | none => exact .inl rfl
      | some r =>
        obtain ⟨f, rest⟩ := r
        have hcl := clsParse_len hq
        have hsf := clsParse_suf hq
        have hrest : rest = s.data.toList.drop (st.pl + (s.size - rest.length - st.pl)) := by
          have h3 := List.suffix_iff_eq_drop.1 (hsf.trans (List.drop_suffix _ _))
          have h4 := bytes_len s
          rw [List.length_drop, ← h4] at hcl
          have h5 : st.pl + (s.size - rest.length - st.pl) = s.data.toList.length - rest.length := by omega
          rw [h5]; exact h3
        rw [List.length_drop, ← bytes_len] at hcl
        exact mk_law' hL _ rest hrest (by omega) _ _
    rw [if_neg h91, if_neg h91]
    by_cases h46 : c = 46
    · rw [if_pos h46, if_pos h46]
      exact mk_law' hL 1 t ht (by omega) _ _
    rw [if_neg h46, if_neg h46]
    by_cases h94 : c = 94 ∧ first = true
    · rw [if_pos h94, if_pos h94]
      exact mk_law' hL 1 t ht (by omega) _ _
    rw [if_neg h94, if_neg h94]
    have hdollar : c = 36 → ((t = [] ∨ Lib.hasPrefix t [92, 41] = true) ↔ (st.pl + 1 = s.size ∨ rIs s st [36, 92, 41] = true)) := by
      intro hc
      have h3 : rIs s st [36, 92, 41] = Lib.hasPrefix t [92, 41] := by
        unfold rIs
        rw [hd, hc]
        simp [Lib.hasPrefix, List.isPrefixOf]
      have h4 : (t = []) ↔ st.pl + 1 = s.size := by
        rw [hleft, List.length_cons] at hlen
        constructor
        · rintro rfl; simp at hlen; omega
        · intro h; exact List.eq_nil_of_length_eq_zero (by omega)
      rw [h3, h4]
    by_cases h36 : c = 36 ∧ (t = [] ∨ Lib.hasPrefix t [92, 41] = true)
    · rw [if_pos h36, if_pos ⟨h36.1, (hdollar h36.1).1 h36.2⟩]
      exact mk_law' hL 1 t ht (by omega) _ _
    rw [if_neg h36, if_neg (show ¬ (c = 36 ∧ (st.pl + 1 = s.size ∨ rIs s st [36, 92, 41] = true)) from fun h => h36 ⟨h.1, (hdollar h.1).2 h.2⟩)]
    by_cases h42 : c = 42 ∧ first = false ∧ begun = false
    · rw [if_pos h42]
      refine .inl ?_
      simp only [rNode]
      rw [h42.1, h42.2.1, h42.2.2]; simp
    · rw [if_neg h42]
      have hb : ({ st with bad := st.bad || (decide (c = 42) && !first && !begun) } : RSt) = st := by
        have : (decide (c = 42) && !first && !begun) = false := by
          cases hx : (decide (c = 42) && !first && !begun) with
          | false => rfl
          | true =>
            simp only [Bool.and_eq_true, decide_eq_true_eq, Bool.not_eq_true'] at hx
            exact absurd ⟨hx.1.1, hx.1.2, hx.2⟩ h42
        rw [this]; simp
      rw [hb]
      exact mk_law' hL 1 t ht (by omega) _ _
theorem lastBegin_snoc (acc : Fo) (h : Hd) (k : Fo) : lastBegin (acc.snoc h k) = (h.kind == 4) := by
  unfold lastBegin
  rw [Fo.tops_snoc, List.getLast?_concat]
theorem row_law (s : ByteArray) : ∀ (n m : Nat) (st : RSt) (p : PSt) (acc : Fo), Live s st p → p.left.length < n → s.size - st.pl < m → s.size < 2000 → AgreeR s (rowS n p acc) (rRow s m st acc (lastBegin acc))
  | 0, _, _, _, _, _, hn, _, _ => by omega
  | _ + 1, 0, _, _, _, _, _, hm, _ => by omega
  | n + 1, m + 1, st, p, acc, hL, hn, hm, h2000 => by
    have hlen := hL.len
    have hnil : (p.left = []) ↔ ¬ st.pl < s.size := by
      constructor
      · intro h; rw [h] at hlen; simp at hlen; omega
      · intro h; exact List.eq_nil_of_length_eq_zero (by omega)
    have hrow : RowLaw s n m := fun st' p' hL' h1 h2 => row_law s n m st' p' .nil hL' h1 h2 h2000
    by_cases hend : p.left = [] ∨ Lib.hasPrefix p.left [92, 41] = true
    · rw [rowS, if_pos hend, rRow, if_neg]
      · exact ⟨rfl, hL⟩
      · rintro ⟨-, h2, h3, -⟩
        rcases hend with h | h
        · exact hnil.1 h h2
        · rw [hL.is, h] at h3; cases h3
    · have hlt : st.pl < s.size := by
        rcases Nat.lt_or_ge st.pl s.size with h | h
        · exact h
        · exact absurd (.inl (hnil.2 (by omega))) hend
      have his : rIs s st [92, 41] = false := by
        rw [hL.is]
        cases h : Lib.hasPrefix p.left [92, 41] with
        | false => rfl
        | true => exact absurd (.inr h) hend
      have hP := part_law hrow hL hlt (by omega) (by omega) (decide (acc.tops.length = 0)) (lastBegin acc)
      rw [rRow, if_pos ⟨hL.bad, hlt, his, by have := hL.g9; omega⟩]
      dsimp only
      have hup := fun q => rRow_up s m q
      have hstr := rPart_up (s := s) (st := st) (row := fun x => rRow s m x .nil false) (fun x => rRow_up s m x .nil false) (decide (acc.tops.length = 0)) (lastBegin acc)
      have hI : RInv s st → RLe s st (rPart (fun x => rRow s m x .nil false) s st (decide (acc.tops.length = 0)) (lastBegin acc)).2 ∧ _ := fun hI => rPart_le (row := fun x => rRow s m x .nil false) (fun x hx => rRow_le s m x .nil false hx) hI (by have := hL.g9; omega) hlt _ _
      generalize rPart (fun x => rRow s m x .nil false) s st (decide (acc.tops.length = 0)) (lastBegin acc) = q at *
      cases hq : partS (fun x => rowS n x .nil) p (decide (acc.tops.length = 0)) (lastBegin acc) with
      | none =>
        rw [hq] at hP
        rw [rowS_none hend hq]
        have hdead : Dead q.2 := hP
        split
        · exact (hdead.up (rTimes_up s _ _ _ _)).up (rRow_up s m _ _ _)
        · exact hdead.up (rRow_up s m _ _ _)
      | some r =>
        obtain ⟨⟨h, k⟩, p1⟩ := r
        rw [hq] at hP
        obtain ⟨hq1, hL1⟩ := hP
        rw [hq1]
        have hM := partS_mono (fun s f s' h1 h2 he => rowS_mono n s .nil f s' h1 h2 he) (by rw [hL.g]; have := hL.g9; omega) hq
        have hlen1 := hL1.len
        have hM1 := hM.1
        have htop := hL1.pl
        by_cases hk : h.kind = 4 ∨ h.kind = 5
        · rw [rowS_plain hend hq hk, if_neg (by rintro ⟨-, h4, h5⟩; rcases hk with hk | hk; exact h4 hk; exact h5 hk), hq1, ← lastBegin_snoc acc h k]
          exact row_law s n m _ _ _ hL1 (by omega) (by omega) h2000
        · rw [not_or] at hk
          rw [if_pos ⟨hL1.bad, hk.1, hk.2⟩]
          have hT := times_law s (p1.left.length + 1) (s.size + 1) q.2 p1 h k hL1 (by omega) (by omega)
          cases ht : timesS (p1.left.length + 1) p1 h k with
          | none =>
            rw [ht] at hT
            rw [rowS_tnone hend hq (by rw [not_or]; exact hk) ht]
            exact Dead.up hT (rRow_up s m _ _ _)
          | some r2 =>
            obtain ⟨⟨h2, k2⟩, p2⟩ := r2
            rw [ht] at hT
            obtain ⟨hT1, hL2⟩ := hT
            rw [rowS_times hend hq (by rw [not_or]; exact hk) ht, hT1]
            have hlen2 := hL2.len
            have hmono := timesS_mono _ (by rw [hL1.m]; have := hL1.m2; omega) (by rw [hL1.g]; have := hL1.g9; omega) ht
            have hleft := hmono.left
            have hbeg : (h.kind == 4) = lastBegin (acc.snoc h2 k2) := by
              rw [lastBegin_snoc]
              have e1 : (h.kind == 4) = false := by rw [beq_eq_false_iff_ne]; exact hk.1
              have e2 : (h2.kind == 4) = false := by
                rw [beq_eq_false_iff_ne]
                rcases times_kind _ _ _ _ _ _ _ ht with e | e
                · rw [e]; exact hk.1
                · rw [e]; decide
              rw [e1, e2]
            rw [hbeg]
            have ha2 : p2.left.length < n := by omega
            have hb2 : s.size - (rTimes s (s.size + 1) q.2 h k).2.pl < m := by omega
            exact row_law s n m _ _ _ hL2 ha2 hb2 h2000
end Go.Proofs.YtkbfckigndkkkaaDoor

/-
  Plain: of any text both readers come to the same.
-/
namespace Go.Proofs.YtkbfckigndkkkaaDoor
set_option linter.unusedSimpArgs false
set_option linter.unusedVariables false
open Go Go.RowKit

theorem live0 (s : ByteArray) : Live s st0 ⟨s.data.toList, 0, 0, false, []⟩ :=
  ⟨rfl, rfl, rfl, rfl, rfl, by simp [st0], by simp [st0], Nat.zero_le _, fun n => by simp only [st0]; constructor; intro h; cases h; intro h; omega, by simp⟩
/-- Both readers of any text. -/
inductive Both (s : ByteArray) : Prop
  | none (h1 : breS s.data.toList = none) (h2 : refS s = none)
  | some (fo : Fo) (p : PSt) (st : RSt) (h1 : breS s.data.toList = some (fo, p)) (h2 : refS s = some (fo, st)) (hg : p.g = st.g) (hm : p.m = st.many) (hr : p.r = st.refs) (h9 : st.g ≤ 9) (h200 : st.many ≤ 200)
theorem both_any (s : ByteArray) (hs : s.size ≤ 1000) : Both s := by
  have hlen : s.data.toList.length = s.size := (bytes_len s).symm
  have h := row_law s (s.data.toList.length + 1) (s.size + 1) st0 ⟨s.data.toList, 0, 0, false, []⟩ .nil (live0 s) (by simp) (by simp [st0]) (by omega)
  have hb : lastBegin .nil = false := rfl
  rw [hb] at h
  cases hq : rowS (s.data.toList.length + 1) ⟨s.data.toList, 0, 0, false, []⟩ .nil with
  | none =>
    rw [hq] at h
    have hd : Dead (rRow s (s.size + 1) st0 .nil false).2 := h
    refine .none (by rw [breS, hq]) ?_
    rw [refS, if_pos]
    rcases hd with hd | hd | hd
    · exact .inl hd
    · exact .inr (.inr (.inl hd))
    · exact .inr (.inr (.inr hd))
  | some r =>
    obtain ⟨fo, p⟩ := r
    rw [hq] at h
    obtain ⟨h1, hL⟩ := h
    have hleft := hL.left
    have hpl := hL.pl
    by_cases he : p.left = []
    · have hz : (rRow s (s.size + 1) st0 .nil false).2.pl = s.size := by
        rw [he] at hleft
        have := congrArg List.length hleft
        rw [List.length_drop] at this
        simp only [List.length_nil] at this
        omega
      refine .some fo p (rRow s (s.size + 1) st0 .nil false).2 (by rw [breS, hq]; simp [he]) ?_ hL.g hL.m hL.r hL.g9 hL.m2
      have h9 := hL.g9
      have h200 := hL.m2
      rw [refS, if_neg (by rw [not_or, not_or, not_or]; exact ⟨by rw [hL.bad]; decide, by rw [hz]; simp, by omega, by omega⟩), ← h1]
    · have hz : (rRow s (s.size + 1) st0 .nil false).2.pl ≠ s.size := by
        intro hz
        rw [hz, List.drop_eq_nil_of_le (by omega)] at hleft
        exact he hleft
      refine .none ?_ (by rw [refS, if_pos (.inr (.inl hz))])
      rw [breS, hq]
      cases hc : p.left with
      | nil => exact absurd hc he
      | cons c t => simp [hc]
end Go.Proofs.YtkbfckigndkkkaaDoor
