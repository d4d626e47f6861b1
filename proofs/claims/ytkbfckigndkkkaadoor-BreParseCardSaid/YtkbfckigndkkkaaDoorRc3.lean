/-
  Walks: the document's part of an expression in brackets.
-/
import Derived.Test.YtkbfckigndkkkaaDoorRc1
import Derived.Deep.RegionWith
import Derived.Deep.WholeRow
namespace Go.Proofs.YtkbfckigndkkkaaDoor
set_option linter.unusedSimpArgs false
set_option linter.unusedVariables false
open Go Go.RowKit

/-- What the document's part leaves. -/
def RPartOut (w : World) (n : Int) : Option ((UInt8 → Bool) × List UInt8) → Ending → World → Prop
  | none, e, w' => (∃ f m, e = .returned (.tuple #[.agg (setA f), .int .i64 m, .bool false])) ∧ Below w.heap.size w w'
  | some (f, rest), e, w' => e = .returned (.tuple #[.agg (setA f), .int .i64 (n - rest.length), .bool true]) ∧ Below w.heap.size w w'
theorem stFresh {ops : Array Oper} {rest : List Oper} {ty : TypeId} {pos : String} {after : Array Edge} {a : Act} {w : World} {Q : Exit → Act → World → Prop} {x y : Operand} {f : UInt8 → Bool} (hx : a.eval x = .pointer (some ⟨w.heap.size, 0, none⟩)) (hy : a.eval y = .agg (setA f))
    (h : wpList Tryd.prog ops Q rest a (w.alloc (.cells (setA f) 39))) : wpList Tryd.prog ops Q (⟨none, .store 39 x y, ty, pos, after, none⟩ :: rest) a (w.alloc (.cells Tryd.zeroCells39 39)) := by
  rw [zeroSet]
  refine stS256 hx hy (hq_eq rfl) ?_
  rw [World.setRow_alloc_new]; exact h
theorem two_sets (w : World) : ((w.alloc (.cells (setA noS) 39)).alloc (.cells (setA noS) 39)).heap[w.heap.size]? = some (.cells (setA noS) 39 (0, 0)) ∧
    ((w.alloc (.cells (setA noS) 39)).alloc (.cells (setA noS) 39)).heap[w.heap.size + 1]? = some (.cells (setA noS) 39 (0, 0)) ∧
    Below w.heap.size w ((w.alloc (.cells (setA noS) 39)).alloc (.cells (setA noS) 39)) :=
  ⟨(hq_ne (by rw [sz_alloc]; omega)).trans (hq_eq rfl), hq_eq (by rw [sz_alloc]), ((Below.refl _ _).alloc (Nat.le_refl _) _).alloc (by rw [sz_alloc]; omega) _⟩
theorem bytes_mid (s : ByteArray) (a b : Nat) : (s.extract a b).data.toList = (s.data.toList.drop a).take (b - a) := by
  rw [ByteArray.data_extract, Array.toList_extract]
theorem drop_one_at {s : ByteArray} {k : Nat} (h : k < s.size) : s.data.toList.drop k = s[k]'h :: s.data.toList.drop (k + 1) := by
  have hl := bytes_len s
  rw [List.drop_eq_getElem_cons (i := k) (by omega)]
  rfl
set_option maxRecDepth 100000 in set_option maxHeartbeats 4000000 in
theorem rpart_end (w : World) (s : ByteArray) (hl : s.size ≤ 1000) :
    Calls Tryd.prog 41 #[.string s, .int .i64 s.size] w (RPartOut w s.size (clsPart (s.data.toList.drop s.size))) := by
  have hX : clsPart (s.data.toList.drop s.size) = none := by rw [List.drop_of_length_le (by rw [bytes_len]; exact Nat.le_refl _)]; rfl
  rw [hX]
  obtain ⟨q0, q1, hB⟩ := two_sets w
  go_enter Tryd.func41, Tryd.ntmps41
  go_wp2_with (first | ((with_reducible apply ldS256); (focus rfl); (first | assumption | (focus ((try simp (disch := (first | (simp only [sz_alloc, sz_set, sz_row, sz_drew, sz_drewN] <;> omega) | omega)) only [hq_eq, hq_ne, hq_set, hq_row, hq_drew, hq_drewN]) <;> (first | rfl | assumption))))) | ((with_reducible apply stZero); (focus rfl); (focus rfl); (first | assumption | (focus ((try simp (disch := (first | (simp only [sz_alloc, sz_set, sz_row, sz_drew, sz_drewN] <;> omega) | omega)) only [hq_eq, hq_ne, hq_set, hq_row, hq_drew, hq_drewN]) <;> (first | rfl | assumption))))) | ((with_reducible apply stS256); (focus rfl); (focus rfl); (first | assumption | (focus ((try simp (disch := (first | (simp only [sz_alloc, sz_set, sz_row, sz_drew, sz_drewN] <;> omega) | omega)) only [hq_eq, hq_ne, hq_set, hq_row, hq_drew, hq_drewN]) <;> (first | rfl | assumption))))))
  all_goals (try rw [zeroSet])
  refine retSet rfl rfl rfl (setRow_heap _ _ _ _ _ _ q0) ⟨⟨noS, 0, rfl⟩, below_setRow hB _ (Nat.le_refl _)⟩
theorem kind_at {s : ByteArray} {k : Nat} (h1 : k + 1 < s.size) (hk : clsKind (s.data.toList.drop k) ≠ 0) : s[k + 1]'h1 = clsKind (s.data.toList.drop k) := by
  obtain ⟨t, ht, -⟩ := drop_two h1
  rw [ht] at hk ⊢
  show _ = if _ then _ else _
  have h2 : (if s[k]'(by omega) = 91 ∧ (s[k + 1]'h1 = 58 ∨ s[k + 1]'h1 = 46 ∨ s[k + 1]'h1 = 61) then s[k + 1]'h1 else 0) ≠ 0 := hk
  split
  · rfl
  · rename_i hn; rw [if_neg hn] at h2; exact absurd rfl h2
theorem kind_len {s : ByteArray} {k : Nat} (hk : clsKind (s.data.toList.drop k) ≠ 0) : k + 1 < s.size := by
  have hl := bytes_len s
  rcases h : s.data.toList.drop k with _ | ⟨a, _ | ⟨b, t⟩⟩
  · rw [h] at hk; exact absurd rfl hk
  · rw [h] at hk; exact absurd rfl hk
  · have := congrArg List.length h
    simp only [List.length_drop, List.length_cons] at this
    omega
set_option maxRecDepth 100000 in set_option maxHeartbeats 4000000 in
theorem rpart_dot (w : World) (s : ByteArray) (k : Nat) (hl : s.size ≤ 1000) (hk : clsKind (s.data.toList.drop k) ≠ 0) (hk2 : clsKind (s.data.toList.drop k) ≠ 58) :
    Calls Tryd.prog 41 #[.string s, .int .i64 k] w (RPartOut w s.size (clsPart (s.data.toList.drop k))) := by
  have h1 := kind_len hk
  have hX : clsPart (s.data.toList.drop k) = none := by
    rw [drop_one_at (k := k) (by omega)] at hk hk2 ⊢
    unfold clsPart
    dsimp only
    rw [if_neg hk2, if_pos hk]
  have hne : (((s[k + 1]'h1).toNat : Int) == 58) = false := by
    rw [beq_eq_false_iff_ne]
    intro h
    have := u8_eq (b := 58) h
    rw [kind_at h1 hk] at this
    exact hk2 this
  rw [hX]
  obtain ⟨q0, q1, hB⟩ := two_sets w
  have HK := Lib.hid hk
  clear hk hk2
  have hk0 : k < s.size := by omega
  go_enter Tryd.func41, Tryd.ntmps41
  go_wp2_with fail
  rw [zeroSet]
  generalize (w.alloc (.cells (setA noS) 39)).alloc (.cells (setA noS) 39) = W at *
  refine (special_any W s k (by omega) hl).mono ?_
  rintro e w1 ⟨rfl, rfl⟩
  rw [decide_eq_true HK.out]
  go_wp2_with fail
  go_loopw [8] (fun v wr => v = .int .i64 ((k : Int) + 2) ∧ wr = w1) (fun _ _ => 0)
  case atStart => exact ⟨rfl, rfl⟩
  case round =>
    obtain ⟨rfl, rfl⟩ := hrel
    by_cases h3 : k + 3 < s.size
    · have h3' : ((k : Int) + 2 + 1 < s.size) := by omega
      go_wp2_with (first | ((with_reducible apply ldS256); (focus rfl); (first | assumption | (focus ((try simp (disch := (first | (simp only [sz_alloc, sz_set, sz_row, sz_drew, sz_drewN] <;> omega) | omega)) only [hq_eq, hq_ne, hq_set, hq_row, hq_drew, hq_drewN]) <;> (first | rfl | assumption))))) | ((with_reducible apply stZero); (focus rfl); (focus rfl); (first | assumption | (focus ((try simp (disch := (first | (simp only [sz_alloc, sz_set, sz_row, sz_drew, sz_drewN] <;> omega) | omega)) only [hq_eq, hq_ne, hq_set, hq_row, hq_drew, hq_drewN]) <;> (first | rfl | assumption))))) | ((with_reducible apply stS256); (focus rfl); (focus rfl); (first | assumption | (focus ((try simp (disch := (first | (simp only [sz_alloc, sz_set, sz_row, sz_drew, sz_drewN] <;> omega) | omega)) only [hq_eq, hq_ne, hq_set, hq_row, hq_drew, hq_drewN]) <;> (first | rfl | assumption))))))
      refine retSet rfl rfl rfl (setRow_heap _ _ _ _ _ _ q0) ⟨⟨noS, 0, rfl⟩, below_setRow hB _ (Nat.le_refl _)⟩
    · have h3' : ¬ ((k : Int) + 2 + 1 < s.size) := by omega
      go_wp2_with (first | ((with_reducible apply ldS256); (focus rfl); (first | assumption | (focus ((try simp (disch := (first | (simp only [sz_alloc, sz_set, sz_row, sz_drew, sz_drewN] <;> omega) | omega)) only [hq_eq, hq_ne, hq_set, hq_row, hq_drew, hq_drewN]) <;> (first | rfl | assumption))))) | ((with_reducible apply stZero); (focus rfl); (focus rfl); (first | assumption | (focus ((try simp (disch := (first | (simp only [sz_alloc, sz_set, sz_row, sz_drew, sz_drewN] <;> omega) | omega)) only [hq_eq, hq_ne, hq_set, hq_row, hq_drew, hq_drewN]) <;> (first | rfl | assumption))))) | ((with_reducible apply stS256); (focus rfl); (focus rfl); (first | assumption | (focus ((try simp (disch := (first | (simp only [sz_alloc, sz_set, sz_row, sz_drew, sz_drewN] <;> omega) | omega)) only [hq_eq, hq_ne, hq_set, hq_row, hq_drew, hq_drewN]) <;> (first | rfl | assumption))))))
      refine retSet rfl rfl rfl (setRow_heap _ _ _ _ _ _ q0) ⟨⟨noS, 0, rfl⟩, below_setRow hB _ (Nat.le_refl _)⟩
theorem cutCol_at {s : ByteArray} {i : Nat} (h : i + 1 < s.size) : cutCol (s.data.toList.drop i) =
    if s[i]'(by omega) = 58 ∧ s[i + 1]'h = 93 then some ([], s.data.toList.drop (i + 2)) else (cutCol (s.data.toList.drop (i + 1))).map fun p => (s[i]'(by omega) :: p.1, p.2) := by
  obtain ⟨t, ht, ht2⟩ := drop_two h
  have ht1 : s.data.toList.drop (i + 1) = s[i + 1]'h :: t := by rw [drop_one_at h, ht2]
  rw [ht, ht1, ← ht2, cutCol]
theorem cutCol_short {s : ByteArray} {i : Nat} (h : ¬ i + 1 < s.size) : cutCol (s.data.toList.drop i) = none := by
  have hl := bytes_len s
  rcases hd : s.data.toList.drop i with _ | ⟨a, _ | ⟨b, t⟩⟩
  · rfl
  · rfl
  · have := congrArg List.length hd
    simp only [List.length_drop, List.length_cons] at this
    omega
theorem take_snoc_at {s : ByteArray} {m i : Nat} (h1 : m ≤ i) (h : i < s.size) : (s.data.toList.drop m).take (i + 1 - m) = (s.data.toList.drop m).take (i - m) ++ [s[i]'h] := by
  have hl := bytes_len s
  rw [show i + 1 - m = (i - m) + 1 by omega, List.take_succ_eq_append_getElem (by rw [List.length_drop]; omega)]
  congr 2
  rw [List.getElem_drop]
  have : m + (i - m) = i := by omega
  simp only [this]
  rfl
set_option maxRecDepth 100000 in set_option maxHeartbeats 4000000 in
theorem rpart_class (w : World) (s : ByteArray) (k : Nat) (hl : s.size ≤ 1000) (hk : clsKind (s.data.toList.drop k) = 58) :
    Calls Tryd.prog 41 #[.string s, .int .i64 k] w (RPartOut w s.size (clsPart (s.data.toList.drop k))) := by
  have hkn : clsKind (s.data.toList.drop k) ≠ 0 := by rw [hk]; decide
  have h1 := kind_len hkn
  have hX : clsPart (s.data.toList.drop k) = match cutCol (s.data.toList.drop (k + 2)) with | none => none | some (name, rest) => (clsOf name).map fun f => (f, rest) := by
    have h2 : s.data.toList.drop (k + 2) = (s.data.toList.drop k).drop 2 := by rw [List.drop_drop]
    rw [h2]
    rw [drop_one_at (k := k) (by omega)] at hk ⊢
    unfold clsPart
    dsimp only
    rw [if_pos hk]
    rcases cutCol _ with _ | ⟨x, y⟩ <;> rfl
  have heq : (((s[k + 1]'h1).toNat : Int) == 58) = true := by rw [kind_at h1 hkn, hk]; rfl
  obtain ⟨q0, q1, hB⟩ := two_sets w
  have HK := Lib.hid hkn
  have HX := Lib.hid hX
  clear hk hkn hX
  have hk0 : k < s.size := by omega
  go_enter Tryd.func41, Tryd.ntmps41
  go_wp2_with fail
  rw [zeroSet]
  generalize (w.alloc (.cells (setA noS) 39)).alloc (.cells (setA noS) 39) = W at *
  refine (special_any W s k (by omega) hl).mono ?_
  rintro e w1 ⟨rfl, rfl⟩
  rw [decide_eq_true HK.out]
  go_wp2_with fail
  go_loopw [8] (fun v wr => wr = w1 ∧ ∃ i : Nat, v = .int .i64 i ∧ k + 2 ≤ i ∧ i ≤ s.size ∧ cutCol (s.data.toList.drop (k + 2)) = (cutCol (s.data.toList.drop i)).map fun p => ((s.data.toList.drop (k + 2)).take (i - (k + 2)) ++ p.1, p.2)) (fun v _ => match v with | .int _ i => s.size - i.toNat | _ => 0)
  case atStart =>
    refine ⟨rfl, k + 2, by simp, Nat.le_refl _, by omega, ?_⟩
    cases cutCol (s.data.toList.drop (k + 2)) with
    | none => rfl
    | some p => simp
  case round =>
    obtain ⟨rfl, i, rfl, hi1, hi2, hcut⟩ := hrel
    have HC := Lib.hid hcut
    clear hcut
    by_cases h3 : i + 1 < s.size
    · have h3' : ((i : Int) + 1 < s.size) := by omega
      have hi0 : i < s.size := by omega
      by_cases hfound : s[i]'hi0 = 58 ∧ s[i + 1]'h3 = 93
      · have e1 : (((s[i]'hi0).toNat : Int) == 58) = true := by rw [hfound.1]; rfl
        have e2 : (((s[i + 1]'h3).toNat : Int) == 93) = true := by rw [hfound.2]; rfl
        have hc := cutCol_at h3
        rw [if_pos hfound] at hc
        have hc2 := HC.out
        rw [hc] at hc2
        simp only [Option.map_some, List.append_nil] at hc2
        have hX := HX.out
        rw [hc2] at hX
        simp only at hX
        have hbz := bytes_len s
        have hrl : (s.data.toList.drop (i + 2)).length = s.size - (i + 2) := by rw [List.length_drop, ← hbz]
        have HX2 := Lib.hid hX
        have HRL := Lib.hid hrl
        clear hX hc hc2 hfound HC hbz hrl
        go_wp2_with fail
        refine (class_any _ _).mono ?_
        rintro e w2 ⟨rfl, hB2⟩
        have p0 := (hB2.block _ (lt_of_heap q0)).trans q0
        have hB3 := hB.trans (hB2.mono hB.size)
        have hsz : w.heap.size < w2.heap.size := lt_of_heap p0
        go_wp2_with (first | ((with_reducible apply ldS256); (focus rfl); (first | assumption | (focus ((try simp (disch := (first | (simp only [sz_alloc, sz_set, sz_row, sz_drew, sz_drewN] <;> omega) | omega)) only [hq_eq, hq_ne, hq_set, hq_row, hq_drew, hq_drewN]) <;> (first | rfl | assumption))))) | ((with_reducible apply stFresh); (focus rfl); (focus rfl)) | ((with_reducible apply stZero); (focus rfl); (focus rfl); (first | assumption | (focus ((try simp (disch := (first | (simp only [sz_alloc, sz_set, sz_row, sz_drew, sz_drewN] <;> omega) | omega)) only [hq_eq, hq_ne, hq_set, hq_row, hq_drew, hq_drewN]) <;> (first | rfl | assumption))))) | ((with_reducible apply stS256); (focus rfl); (focus rfl); (first | assumption | (focus ((try simp (disch := (first | (simp only [sz_alloc, sz_set, sz_row, sz_drew, sz_drewN] <;> omega) | omega)) only [hq_eq, hq_ne, hq_set, hq_row, hq_drew, hq_drewN]) <;> (first | rfl | assumption))))))
        refine retSet rfl rfl rfl (setRow_heap _ _ _ _ _ _ ((heap_alloc_lt hsz).trans p0)) ?_
        rw [HX2.out]
        have hlast : Below w.heap.size w ((w2.alloc (.cells (setA fun c => (inF (List.take (i - (k + 2)) (List.drop (k + 2) s.data.toList)) c).fst) 39)).setRow w.heap.size (setA fun c => (inF (List.take (i - (k + 2)) (List.drop (k + 2) s.data.toList)) c).fst)) :=
          below_setRow (hB3.alloc (by omega) _) _ (Nat.le_refl _)
        have hrl := HRL.out
        generalize List.take (i - (k + 2)) (List.drop (k + 2) s.data.toList) = nm at *
        cases hcl : clsOf nm with
        | none =>
          have : (inF nm 0).2 = false := by unfold inF; rw [hcl]
          refine ⟨⟨fun c => (inF nm c).1, (i : Int) + 2, ?_⟩, hlast⟩
          show Ending.returned (.tuple #[.agg (setA fun c => (inF nm c).1), .int .i64 ((i : Int) + 2), .bool (inF nm 0).2]) = .returned (.tuple #[.agg (setA fun c => (inF nm c).1), .int .i64 ((i : Int) + 2), .bool false])
          rw [this]
        | some f =>
          have h0 : (inF nm 0).2 = true := by unfold inF; rw [hcl]
          have hf : (fun c => (inF nm c).1) = f := by funext c; unfold inF; rw [hcl]
          refine ⟨?_, hlast⟩
          show Ending.returned (.tuple #[.agg (setA fun c => (inF nm c).1), .int .i64 ((i : Int) + 2), .bool (inF nm 0).2]) = .returned (.tuple #[.agg (setA f), .int .i64 ((s.size : Int) - ((s.data.toList.drop (i + 2)).length : Nat)), .bool true])
          rw [h0, hf, hrl, show (s.size : Int) - ((s.size - (i + 2) : Nat) : Int) = (i : Int) + 2 by omega]
      · have hne : (((s[i]'hi0).toNat : Int) == 58) = false ∨ ((((s[i]'hi0).toNat : Int) == 58) = true ∧ (((s[i + 1]'h3).toNat : Int) == 93) = false) := by
          cases e1 : (((s[i]'hi0).toNat : Int) == 58) with
          | false => exact .inl rfl
          | true =>
            refine .inr ⟨rfl, ?_⟩
            rw [beq_eq_false_iff_ne]
            intro e2
            exact hfound ⟨u8_eq (b := 58) (beq_iff_eq.1 e1), u8_eq (b := 93) e2⟩
        have hc := cutCol_at h3
        rw [if_neg hfound] at hc
        have hc2 := HC.out
        rw [hc] at hc2
        have HC2 := Lib.hid hc2
        clear hc hc2 hfound HC
        rcases hne with e1 | ⟨e1, e2⟩
        all_goals go_wp2_with fail
        all_goals (refine ⟨⟨trivial, i + 1, by simp, by omega, by omega, ?_⟩, by simp only [Int.toNat_natCast]; omega⟩)
        all_goals (rw [HC2.out, Option.map_map, take_snoc_at hi1 hi0]; congr 1; funext p; simp)
    · have h3' : ¬ ((i : Int) + 1 < s.size) := by omega
      have hX := HX.out
      rw [HC.out, cutCol_short h3] at hX
      have HX2 := Lib.hid hX
      clear hX
      go_wp2_with (first | ((with_reducible apply ldS256); (focus rfl); (first | assumption | (focus ((try simp (disch := (first | (simp only [sz_alloc, sz_set, sz_row, sz_drew, sz_drewN] <;> omega) | omega)) only [hq_eq, hq_ne, hq_set, hq_row, hq_drew, hq_drewN]) <;> (first | rfl | assumption))))) | ((with_reducible apply stZero); (focus rfl); (focus rfl); (first | assumption | (focus ((try simp (disch := (first | (simp only [sz_alloc, sz_set, sz_row, sz_drew, sz_drewN] <;> omega) | omega)) only [hq_eq, hq_ne, hq_set, hq_row, hq_drew, hq_drewN]) <;> (first | rfl | assumption))))) | ((with_reducible apply stS256); (focus rfl); (focus rfl); (first | assumption | (focus ((try simp (disch := (first | (simp only [sz_alloc, sz_set, sz_row, sz_drew, sz_drewN] <;> omega) | omega)) only [hq_eq, hq_ne, hq_set, hq_row, hq_drew, hq_drewN]) <;> (first | rfl | assumption))))))
      refine retSet rfl rfl rfl (setRow_heap _ _ _ _ _ _ q0) ?_
      rw [HX2.out]
      exact ⟨⟨noS, 0, rfl⟩, below_setRow hB _ (Nat.le_refl _)⟩
end Go.Proofs.YtkbfckigndkkkaaDoor
