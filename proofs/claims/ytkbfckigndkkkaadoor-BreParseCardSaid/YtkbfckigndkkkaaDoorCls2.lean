/-
  Walks: parts of an expression in brackets.
-/
import Derived.Test.YtkbfckigndkkkaaDoorCls1
import Derived.MapKept
import Derived.BigQuiet
import Derived.Deep.QuietTactic
import Derived.Deep.RegionLaw
import Derived.Deep.RegionHeld3
namespace Go.Proofs.YtkbfckigndkkkaaDoor
set_option linter.unusedSimpArgs false
set_option linter.unusedVariables false
open Go Go.RowKit

/-- The map of the classes. -/
def GoodMap (N : Nat) (w : World) (m : Nat) : Prop := ∃ es clock, w.heap[m]? = some (.map es clock) ∧
  (∀ e ∈ es.toList, ∃ k f, e.key = .string k ∧ clsOf k.data.toList = some f ∧ IsV N w e.val f) ∧ ∀ k : ByteArray, clsOf k.data.toList ≠ none → ∃ e ∈ es.toList, e.key = .string k
def NamedSaid : Prop := ∀ w : World, Calls Tryd.prog 46 #[] w fun e w' => ∃ m, e = .returned (.map (some m)) ∧ GoodMap w.heap.size w' m ∧ Below w.heap.size w w'

theorem zeroIs (w : World) : (zeroValue 77).run Tryd.prog w = .ok .nilFunc w := by kernel_rfl
theorem index_ge : ∀ (l p : List UInt8), -1 ≤ Lib.index l p
  | [], p => by unfold Lib.index; split <;> omega
  | a :: l, p => by
    have := index_ge l p
    unfold Lib.index
    split
    · omega
    · split <;> omega
theorem lookup_good {N : Nat} {w : World} {m : Nat} (hG : GoodMap N w m) (k : ByteArray) :
    ∃ v b, (Instr.lookup 90 (.map (some m)) (.string k) true).run Tryd.prog w = .ok (.tuple #[v, .bool b]) w ∧
      match clsOf k.data.toList with | some f => b = true ∧ IsV N w v f | none => b = false ∧ v = .nilFunc := by
  obtain ⟨es, clock, hh, hall, hin⟩ := hG
  have hk : MapKept.IsKey .string (.string k) := trivial
  have hu : Tryd.prog.underlying 9 = some .string := Tryd.underlying9
  rcases MapKept.findNow_spec hk es.toList 0 (fun e he => by obtain ⟨q, f, hq, -⟩ := hall e he; rw [hq]; trivial) with ⟨h1, h2⟩ | ⟨j, e, h1, h2, h3⟩
  · refine ⟨.nilFunc, false, ?_, ?_⟩
    · simp [Instr.lookup, run_underlying Tryd.underlying90, MapKept.run_getObj_map hh, MapKept.run_checkKey hu hk, MapKept.run_findKey hu h1, Result.andThen, zeroIs]
    · cases hc : clsOf k.data.toList with
      | none => exact ⟨rfl, rfl⟩
      | some f =>
        obtain ⟨e, he, hek⟩ := hin k (by rw [hc]; simp)
        exact absurd hek (h2 e he)
  · obtain ⟨q, f, hq, hf, hI⟩ := hall e (List.mem_of_getElem? h2)
    rw [hq] at h3
    cases h3
    refine ⟨e.val, true, ?_, ?_⟩
    · simp [Instr.lookup, run_underlying Tryd.underlying90, MapKept.run_getObj_map hh, MapKept.run_checkKey hu hk, MapKept.run_findKey hu h1, Result.andThen]
    · rw [hf]; exact ⟨rfl, hI⟩
/-- Cut at ":]" is cutCol. -/
theorem cutCol_index : ∀ (l : List UInt8), cutCol l = if 0 ≤ Lib.index l [58, 93] then some (l.take (Lib.index l [58, 93]).toNat, l.drop ((Lib.index l [58, 93]).toNat + 2)) else none
  | [] => rfl
  | [a] => by
    have : Lib.index [a] [58, 93] = -1 := by simp [Lib.index, List.isPrefixOf]
    rw [this]; rfl
  | a :: b :: t => by
    have ih := cutCol_index (b :: t)
    by_cases h : a = 58 ∧ b = 93
    · obtain ⟨rfl, rfl⟩ := h
      have : Lib.index (58 :: 93 :: t) [58, 93] = 0 := by simp [Lib.index, List.isPrefixOf]
      rw [this]
      simp [cutCol]
    · have hp : List.isPrefixOf [58, 93] (a :: b :: t) = false := by
        simp only [List.isPrefixOf, Bool.and_true, Bool.and_eq_false_iff, beq_eq_false_iff_ne]
        by_cases ha : a = 58
        · exact .inr fun e => h ⟨ha, e.symm⟩
        · exact .inl fun e => ha e.symm
      have hi : Lib.index (a :: b :: t) [58, 93] = if Lib.index (b :: t) [58, 93] == -1 then -1 else Lib.index (b :: t) [58, 93] + 1 := by
        rw [Lib.index, hp]; rfl
      rw [cutCol, if_neg h, ih, hi]
      by_cases h1 : 0 ≤ Lib.index (b :: t) [58, 93]
      · have h2 : ¬ (Lib.index (b :: t) [58, 93] == -1) = true := by simp; omega
        rw [if_pos h1, if_neg h2, if_pos (by omega)]
        have h3 : (Lib.index (b :: t) [58, 93] + 1).toNat = (Lib.index (b :: t) [58, 93]).toNat + 1 := by omega
        rw [h3]
        simp only [Option.map_some, List.take_succ_cons, Option.some.injEq, Prod.mk.injEq, true_and]
        rw [show (Lib.index (b :: t) [58, 93]).toNat + 1 + 2 = ((Lib.index (b :: t) [58, 93]).toNat + 2) + 1 by omega]
        rfl
      · rw [if_neg h1]
        split
        · rfl
        · rename_i h2
          have h4 : -1 ≤ Lib.index (b :: t) [58, 93] := index_ge _ _
          have h5 : Lib.index (b :: t) [58, 93] ≠ -1 := by simpa using h2
          omega
/-- What part leaves. -/
def PartOut (w : World) : Option ((UInt8 → Bool) × List UInt8) → Ending → World → Prop
  | none, e, w' => (∃ v r, e = .returned (.tuple #[v, .string r, .bool false])) ∧ Below w.heap.size w w'
  | some (f, rest), e, w' => (∃ v r, e = .returned (.tuple #[v, .string r, .bool true]) ∧ r.data.toList = rest ∧ IsV w.heap.size w' v f) ∧ Below w.heap.size w w'

theorem below_drewN {w w2 : World} (n : Nat) (h : Below (w.drewN n).heap.size (w.drewN n) w2) : Below w.heap.size w w2 := ⟨h.os, h.tape, h.output, h.size, h.block⟩
theorem cutCol_len : ∀ (l x y : List UInt8), cutCol l = some (x, y) → x.length + 2 + y.length = l.length
  | [], x, y, h => by cases h
  | [_], x, y, h => by cases h
  | a :: b :: t, x, y, h => by
    simp only [cutCol] at h
    split at h
    · cases h; simp only [List.length_nil, List.length_cons]; omega
    · cases hq : cutCol (b :: t) with
      | none => rw [hq] at h; cases h
      | some p =>
        rw [hq] at h
        obtain ⟨p1, p2⟩ := p
        cases h
        have := cutCol_len _ _ _ hq
        simp only [List.length_cons] at this ⊢; omega
def CutIs (l : List UInt8) (q : List UInt8 × List UInt8 × Bool) : Prop := (cutCol l = some (q.1, q.2.1) ∧ q.1.length + 2 ≤ l.length) ∨ (cutCol l = none ∧ q.1 = l)
theorem cut_col (l : List UInt8) : CutIs l (Lib.cut l [58, 93]) := by
  have h := cutCol_index l
  unfold Lib.cut CutIs
  split
  · rename_i h0
    rw [if_pos h0] at h
    exact .inl ⟨h, by have := cutCol_len _ _ _ h; simp only at this ⊢; omega⟩
  · rename_i h0
    rw [if_neg h0] at h
    exact .inr ⟨h, rfl⟩
set_option maxRecDepth 100000 in set_option maxHeartbeats 4000000 in
theorem cpart_colon (hnam : NamedSaid) (w : World) (s : ByteArray) (hE : Env w) (h4 : 4 ≤ w.heap.size) (hl : s.size ≤ 1000) (hk : clsKind s.data.toList = 58) :
    Calls Tryd.prog 38 #[.string s] w (PartOut w (clsPart s.data.toList)) := by
  have h1 : 1 < s.size := by
    rcases Nat.lt_or_ge 1 s.size with h | h
    · exact h
    · rw [kind_short h] at hk; cases hk
  have hne : s.toList.isEmpty = false := by
    obtain ⟨t, ht⟩ := two_bytes h1
    rw [bytes_toList, ht]; rfl
  obtain ⟨m, hm⟩ := hE.ml
  have HK := Lib.hid hk
  clear hk
  go_enter Tryd.func38, Tryd.ntmps38
  go_wp2_with fail
  refine (kind_any w s).mono ?_
  rintro e w' ⟨rfl, rfl⟩
  rw [HK.out]
  go_wp2_with fail
  refine (Tryd.strings_Cut _ _ m w' (by simp; omega) hm).mono ?_
  rintro e w1 ⟨rfl, n, rfl⟩
  have hl2 : (s.extract 2 s.size).data.toList = s.data.toList.drop 2 := bytes_extract s 2
  rw [hl2, show (⟨#[58, 93]⟩ : ByteArray).data.toList = [58, 93] from rfl]
  have hd := cut_col (s.data.toList.drop 2)
  generalize Lib.cut (s.data.toList.drop 2) [58, 93] = q at *
  obtain ⟨nm, rs, ok⟩ := q
  have HD := Lib.hid hd
  have HL2 := Lib.hid hl2
  clear hd hl2
  have hsz : (⟨nm.toArray⟩ : ByteArray).size = nm.length := by rw [bytes_len]
  go_wp2_with fail
  refine (hnam _).mono ?_
  rintro e w2 ⟨mp, rfl, hG, hB⟩
  obtain ⟨v, b, hrun, hv⟩ := lookup_good hG ⟨nm.toArray⟩
  have HV := Lib.hid hv
  clear hv
  have hB' : Below w'.heap.size w' w2 := below_drewN n hB
  have hnm : nm.length ≤ 1000 ∧ (nm.length + 4 ≤ s.size ∨ nm.length + 2 = s.size) := by
    have hz : (s.data.toList.drop 2).length = s.size - 2 := by rw [List.length_drop, ← bytes_len]
    rcases HD.out with ⟨-, h⟩ | ⟨-, h⟩
    · simp only at h; omega
    · simp only at h; rw [h, hz]; omega
  have hX : clsPart s.data.toList = match cutCol (s.data.toList.drop 2) with | none => none | some (name, rest) => (clsOf name).map fun f => (f, rest) := by
    obtain ⟨t, ht⟩ := two_bytes h1
    have hk2 := HK.out
    rw [ht] at hk2 ⊢
    unfold clsPart
    simp only [hk2, if_true]
    rfl
  have HX := Lib.hid hX
  clear hX
  obtain ⟨hnm1, hnm2⟩ := hnm
  cases b with
  | false =>
    go_wp2_with fail
    go_ret3
    have hv := HV.out
    have hn : clsPart s.data.toList = none := by
      rw [HX.out]
      rcases HD.out with ⟨h, -⟩ | ⟨h, -⟩
      · rw [h]
        simp only at hv ⊢
        cases hc : clsOf nm with
        | none => rfl
        | some f => rw [hc] at hv; cases hv.1
      · rw [h]
    rw [hn]
    exact ⟨⟨_, _, rfl⟩, hB'⟩
  | true =>
    go_wp2_with fail
    go_ret3
    have hv := HV.out
    cases hc : clsOf nm with
    | none => rw [hc] at hv; cases hv.1
    | some f =>
      rw [hc] at hv
      rcases HD.out with ⟨h, hle⟩ | ⟨h, hle⟩
      · have hn : clsPart s.data.toList = some (f, rs) := by rw [HX.out, h]; simp only at hc ⊢; rw [hc]; rfl
        rw [hn]
        refine ⟨⟨v, ⟨rs.toArray⟩, ?_, rfl, hv.2⟩, hB'⟩
        refine tup3 rfl rfl ?_
        have hz : (s.data.toList.drop 2).length = s.size - 2 := by rw [List.length_drop, ← bytes_len]
        simp only at hle
        have : decide ((nm.length : Int) + 4 ≤ s.size) = true := by simp; omega
        show Value.bool _ = _
        exact congrArg _ this
      · have hn : clsPart s.data.toList = none := by rw [HX.out, h]
        rw [hn]
        refine ⟨⟨v, _, tup3 rfl rfl ?_⟩, hB'⟩
        have hz : (s.data.toList.drop 2).length = s.size - 2 := by rw [List.length_drop, ← bytes_len]
        simp only at hle
        have : decide ((nm.length : Int) + 4 ≤ s.size) = false := by simp; rw [hle, hz]; omega
        show Value.bool _ = _
        exact congrArg _ this

set_option maxRecDepth 100000 in set_option maxHeartbeats 4000000 in
theorem cpart_nil (w : World) (s : ByteArray) (hs : s.data.toList = []) :
    Calls Tryd.prog 38 #[.string s] w (PartOut w (clsPart s.data.toList)) := by
  have hne : s.toList.isEmpty = true := by rw [bytes_toList, hs]; rfl
  have hn : clsPart s.data.toList = none := by rw [hs]; rfl
  have hk : clsKind s.data.toList = 0 := by rw [hs]; rfl
  rw [hn]
  have HK := Lib.hid hk
  clear hk hs hn
  go_enter Tryd.func38, Tryd.ntmps38
  go_wp2_with fail
  refine (kind_any w s).mono ?_
  rintro e w' ⟨rfl, rfl⟩
  rw [HK.out]
  go_wp2_with fail
  go_ret3
  exact ⟨⟨_, _, rfl⟩, Below.refl _ _⟩
set_option maxRecDepth 100000 in set_option maxHeartbeats 4000000 in
theorem cpart_dot (w : World) (s : ByteArray) (hk : clsKind s.data.toList = 46 ∨ clsKind s.data.toList = 61) :
    Calls Tryd.prog 38 #[.string s] w (PartOut w (clsPart s.data.toList)) := by
  have h1 : 1 < s.size := by
    rcases Nat.lt_or_ge 1 s.size with h | h
    · exact h
    · rw [kind_short h] at hk; rcases hk with hk | hk <;> cases hk
  have hne : s.toList.isEmpty = false := by
    obtain ⟨t, ht⟩ := two_bytes h1
    rw [bytes_toList, ht]; rfl
  have hn : clsPart s.data.toList = none := by
    obtain ⟨t, ht⟩ := two_bytes h1
    rw [ht] at hk ⊢
    unfold clsPart
    rcases hk with hk | hk
    · simp only [hk]; rfl
    · simp only [hk]; rfl
  rw [hn]
  have HK := Lib.hid hk
  clear hk hn
  go_enter Tryd.func38, Tryd.ntmps38
  go_wp2_with fail
  refine (kind_any w s).mono ?_
  rintro e w' ⟨rfl, rfl⟩
  rcases HK.out with h | h
  all_goals (
    rw [h]
    go_wp2_with fail
    go_ret3
    exact ⟨⟨_, _, rfl⟩, Below.refl _ _⟩)
end Go.Proofs.YtkbfckigndkkkaaDoor
