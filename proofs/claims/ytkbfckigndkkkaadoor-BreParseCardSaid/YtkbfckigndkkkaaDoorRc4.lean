/-
  Walks: the document's part of an expression in brackets: a byte, or a stretch of bytes.
-/
import Derived.Test.YtkbfckigndkkkaaDoorRc3
namespace Go.Proofs.YtkbfckigndkkkaaDoor
set_option linter.unusedSimpArgs false
set_option linter.unusedVariables false
open Go Go.RowKit

theorem set_true (f : UInt8 → Bool) (i : Nat) (hlt : i < 256) : (setA f).setIfInBounds i (.bool true) = setA fun x => f x || decide (x.toNat = i) := by
  apply Array.ext_getElem?
  intro j
  rw [Array.getElem?_setIfInBounds]
  have e : ∀ h : UInt8 → Bool, (setA h)[j]? = (setL h)[j]? := fun h => by simp [setA]
  by_cases hj : i = j
  · subst hj
    have hto : (UInt8.ofNat i).toNat = i := by simp; omega
    rw [if_pos rfl, if_pos (by simp; exact hlt), e, setL_get _ i hlt]
    simp only [hto, decide_true, Bool.or_true]
  · rw [if_neg hj, e, e]
    rcases Nat.lt_or_ge j 256 with h' | h'
    · rw [setL_get _ j h', setL_get _ j h']
      have hjt : (UInt8.ofNat j).toNat = j := by simp; omega
      congr 2
      simp only [hjt, decide_eq_false (fun h => hj (Eq.symm h)), Bool.or_false]
    · rw [List.getElem?_eq_none (by rw [setL_length]; exact h'), List.getElem?_eq_none (by rw [setL_length]; exact h')]
theorem set_single (c : UInt8) : (fun x : UInt8 => noS x || decide (x.toNat = c.toNat)) = between c.toNat c.toNat := by
  funext x
  unfold between noS
  rw [Bool.eq_iff_iff]
  simp only [Bool.false_or, Bool.and_eq_true, decide_eq_true_eq]
  omega
/-- Why no stretch stands here. -/
def NoDash (s : ByteArray) (k : Nat) : Prop := ¬ k + 2 < s.size ∨ (∃ h : k + 2 < s.size, (((s[k + 1]'(by omega)).toNat : Int) == 45) = false) ∨ ∃ h : k + 2 < s.size, (((s[k + 1]'(by omega)).toNat : Int) == 45) = true ∧ (((s[k + 2]'h).toNat : Int) != 93) = false
theorem nodash_part {s : ByteArray} {k : Nat} (hk0 : k < s.size) (hk : clsKind (s.data.toList.drop k) = 0) (hd : NoDash s k) :
    clsPart (s.data.toList.drop k) = some (between (s[k]'hk0).toNat (s[k]'hk0).toNat, s.data.toList.drop (k + 1)) := by
  have h0 := drop_one_at hk0
  rw [h0] at hk ⊢
  rw [part_zero hk]
  have hl := bytes_len s
  rcases hd with h | ⟨h, h2⟩ | ⟨h, h2, h3⟩
  · rcases ht : s.data.toList.drop (k + 1) with _ | ⟨b, _ | ⟨c, t⟩⟩
    · rfl
    · rfl
    · have := congrArg List.length ht
      simp only [List.length_drop, List.length_cons] at this
      omega
  · rw [drop_one_at (k := k + 1) (by omega), drop_one_at (k := k + 1 + 1) h]
    unfold zeroL
    dsimp only
    rw [if_neg]
    rintro ⟨e, -⟩
    rw [beq_eq_false_iff_ne] at h2
    exact h2 (by rw [e]; rfl)
  · rw [drop_one_at (k := k + 1) (by omega), drop_one_at (k := k + 1 + 1) h]
    unfold zeroL
    dsimp only
    rw [if_neg]
    rintro ⟨-, e⟩
    rw [bne_eq_false_iff_eq] at h3
    exact e (u8_eq (b := 93) h3)
set_option maxRecDepth 100000 in set_option maxHeartbeats 4000000 in
theorem rpart_one (w : World) (s : ByteArray) (k : Nat) (hl : s.size ≤ 1000) (hk0 : k < s.size) (hk : clsKind (s.data.toList.drop k) = 0) (hd : NoDash s k) :
    Calls Tryd.prog 41 #[.string s, .int .i64 k] w (RPartOut w s.size (clsPart (s.data.toList.drop k))) := by
  rw [nodash_part hk0 hk hd]
  obtain ⟨q0, q1, hB⟩ := two_sets w
  have HK := Lib.hid hk
  clear hk
  have HD := Lib.hid hd
  clear hd
  go_enter Tryd.func41, Tryd.ntmps41
  go_wp2_with fail
  rw [zeroSet]
  generalize (w.alloc (.cells (setA noS) 39)).alloc (.cells (setA noS) 39) = W at *
  refine (special_any W s k (by omega) hl).mono ?_
  rintro e w1 ⟨rfl, rfl⟩
  rw [decide_eq_false (fun h => h HK.out)]
  have hc256 : (s[k]'hk0).toNat < 256 := (s[k]'hk0).toNat_lt
  have hcell := set_cell q1 hc256
  have hfr := free_of_heap q1 (s[k]'hk0).toNat
  have hbl := lt_of_heap q1
  have q1' : (w1.setCell ⟨w.heap.size + 1, (s[k]'hk0).toNat, none⟩ (.bool true)).heap[w.heap.size + 1]? = some (.cells (setA (between (s[k]'hk0).toNat (s[k]'hk0).toNat)) 39 (0, 0)) := by
    rw [heap_setCell_at q1, set_true _ _ hc256, set_single]
  have q0' : (w1.setCell ⟨w.heap.size + 1, (s[k]'hk0).toNat, none⟩ (.bool true)).heap[w.heap.size]? = some (.cells (setA noS) 39 (0, 0)) := (hq_set (by simp)).trans q0
  have hB' : Below w.heap.size w (w1.setCell ⟨w.heap.size + 1, (s[k]'hk0).toNat, none⟩ (.bool true)) := hB.setCell (by simp) _
  have hrl : (s.size : Int) - ((s.data.toList.drop (k + 1)).length : Nat) = (k : Int) + 1 := by
    have := bytes_len s
    rw [List.length_drop, ← this]; omega
  have HRL := Lib.hid hrl
  clear hrl q0 q1 hB
  rcases HD.out with h | ⟨h, h2⟩ | ⟨h, h2, h3⟩
  all_goals go_wp2_with (first | ((with_reducible apply ldS256); (focus rfl); (first | assumption | (focus ((try simp (disch := (first | (simp only [sz_alloc, sz_set, sz_row, sz_drew, sz_drewN] <;> omega) | omega)) only [hq_eq, hq_ne, hq_set, hq_row, hq_drew, hq_drewN]) <;> (first | rfl | assumption))))) | ((with_reducible apply stS256); (focus rfl); (focus rfl); (first | assumption | (focus ((try simp (disch := (first | (simp only [sz_alloc, sz_set, sz_row, sz_drew, sz_drewN] <;> omega) | omega)) only [hq_eq, hq_ne, hq_set, hq_row, hq_drew, hq_drewN]) <;> (first | rfl | assumption))))))
  all_goals (refine retSet rfl rfl rfl (setRow_heap _ _ _ _ _ _ q0') ⟨?_, below_setRow hB' _ (Nat.le_refl _)⟩)
  all_goals (rw [HRL.out]; rfl)
/-- The stretch from a on, up to i. -/
def upF (a i : Nat) : UInt8 → Bool := fun x => decide (a ≤ x.toNat) && decide (x.toNat < i)
theorem up_step (a i : Nat) (h : a ≤ i) : (fun x : UInt8 => upF a i x || decide (x.toNat = i)) = upF a (i + 1) := by
  funext x
  unfold upF
  rw [Bool.eq_iff_iff]
  simp only [Bool.or_eq_true, Bool.and_eq_true, decide_eq_true_eq]
  omega
theorem up_end (a b : Nat) : upF a (b + 1) = between a b := by
  funext x
  unfold upF between
  rw [Bool.eq_iff_iff]
  simp only [Bool.and_eq_true, decide_eq_true_eq]
  omega
theorem up_start (a : Nat) : upF a a = noS := by
  funext x
  unfold upF noS
  rw [Bool.eq_iff_iff]
  simp only [Bool.and_eq_true, decide_eq_true_eq, Bool.false_eq_true]
  constructor
  · intro hx; omega
  · intro hx; contradiction
theorem dash_part {s : ByteArray} {k : Nat} (h : k + 2 < s.size) (hk : clsKind (s.data.toList.drop k) = 0) (h1 : (((s[k + 1]'(by omega)).toNat : Int) == 45) = true) (h2 : (((s[k + 2]'h).toNat : Int) != 93) = true) :
    clsPart (s.data.toList.drop k) = if (s[k]'(by omega)).toNat ≤ (s[k + 2]'h).toNat ∧ clsKind (s.data.toList.drop (k + 2)) = 0 then some (between (s[k]'(by omega)).toNat (s[k + 2]'h).toNat, s.data.toList.drop (k + 3)) else none := by
  have h0 := drop_one_at (s := s) (k := k) (by omega)
  have h3 := drop_one_at (s := s) (k := k + 1) (by omega)
  have h4 := drop_one_at (s := s) (k := k + 2) h
  rw [h0, h3, h4] at hk ⊢
  rw [part_zero hk]
  unfold zeroL
  dsimp only
  rw [if_pos]
  refine ⟨u8_eq (b := 45) (beq_iff_eq.1 h1), ?_⟩
  intro e
  rw [bne_iff_ne] at h2
  exact h2 (by rw [e]; rfl)
set_option maxRecDepth 100000 in set_option maxHeartbeats 4000000 in
theorem rpart_range (w : World) (s : ByteArray) (k : Nat) (hl : s.size ≤ 1000) (h : k + 2 < s.size) (hk : clsKind (s.data.toList.drop k) = 0) (h1 : (((s[k + 1]'(by omega)).toNat : Int) == 45) = true) (h2 : (((s[k + 2]'h).toNat : Int) != 93) = true) :
    Calls Tryd.prog 41 #[.string s, .int .i64 k] w (RPartOut w s.size (clsPart (s.data.toList.drop k))) := by
  have hX := dash_part h hk h1 h2
  have HX := Lib.hid hX
  obtain ⟨q0, q1, hB⟩ := two_sets w
  have HK := Lib.hid hk
  clear hk hX
  have hk0 : k < s.size := by omega
  have hk1 : k + 1 < s.size := by omega
  go_enter Tryd.func41, Tryd.ntmps41
  go_wp2_with fail
  rw [zeroSet]
  generalize (w.alloc (.cells (setA noS) 39)).alloc (.cells (setA noS) 39) = W at *
  refine (special_any W s k (by omega) hl).mono ?_
  rintro e w1 ⟨rfl, rfl⟩
  rw [decide_eq_false (fun h => h HK.out)]
  have hc256 : (s[k + 2]'h).toNat < 256 := (s[k + 2]'h).toNat_lt
  have hsp : ∀ w : World, Calls Tryd.prog 52 #[.string s, .int .i64 ((k : Int) + 2)] w fun e w' => e = .returned (.bool (decide (clsKind (s.data.toList.drop (k + 2)) ≠ 0))) ∧ w' = w := fun w => special_any w s (k + 2) (by omega) hl
  have hBd : Below w.heap.size w w1.drew := ⟨hB.os, hB.tape, hB.output, hB.size, hB.block⟩
  have hI : (k : Int) + 2 < (s.size : Int) := by omega
  have hI0 : (0 : Int) ≤ (k : Int) + 2 := by omega
  have hI1 : ((k : Int) + 2).toNat = k + 2 := by omega
  have hJ : IntKind.i64.wrap ((k : Int) + 2) = (k : Int) + 2 := by
    have hsg : IntKind.i64.signed = true := rfl
    simp [IntKind.wrap, IntKind.bits, hsg]; omega
  by_cases hle : (s[k]'hk0).toNat ≤ (s[k + 2]'h).toNat
  · have hgt : decide ((s[k + 2]'h).toNat < (s[k]'hk0).toNat) = false := decide_eq_false (by omega)
    cases hsk : decide (clsKind (s.data.toList.drop (k + 2)) ≠ 0) with
    | true =>
      rw [hsk] at hsp
      have hXn : clsPart (s.data.toList.drop k) = none := by rw [HX.out, if_neg (fun hx => of_decide_eq_true hsk hx.2)]
      have HXN := Lib.hid hXn
      clear hXn HX
      go_upto_region 13 with fail
      go_region_with (go_at_call 52; refine (hsp _).mono ?_; rintro e w2 ⟨rfl, rfl⟩)
      go_wp2_with (first | ((with_reducible apply ldS256); (focus rfl); (first | assumption | (focus ((try simp (disch := (first | (simp only [sz_alloc, sz_set, sz_row, sz_drew, sz_drewN] <;> omega) | omega)) only [hq_eq, hq_ne, hq_set, hq_row, hq_drew, hq_drewN]) <;> (first | rfl | assumption))))) | ((with_reducible apply stS256); (focus rfl); (focus rfl); (first | assumption | (focus ((try simp (disch := (first | (simp only [sz_alloc, sz_set, sz_row, sz_drew, sz_drewN] <;> omega) | omega)) only [hq_eq, hq_ne, hq_set, hq_row, hq_drew, hq_drewN]) <;> (first | rfl | assumption))))))
      all_goals (refine retSet rfl rfl rfl (setRow_heap _ _ _ _ _ _ q0) ?_)
      all_goals (rw [HXN.out])
      all_goals exact ⟨⟨noS, 0, rfl⟩, below_setRow hBd _ (Nat.le_refl _)⟩
    | false =>
      rw [hsk] at hsp
      have hXn : clsPart (s.data.toList.drop k) = some (between (s[k]'hk0).toNat (s[k + 2]'h).toNat, s.data.toList.drop (k + 3)) := by rw [HX.out, if_pos ⟨hle, by simpa using of_decide_eq_false hsk⟩]
      have HXN := Lib.hid hXn
      have hrl : (s.size : Int) - ((s.data.toList.drop (k + 3)).length : Nat) = (k : Int) + 3 := by
        have := bytes_len s
        rw [List.length_drop, ← this]; omega
      have HRL := Lib.hid hrl
      clear hXn HX hrl
      go_upto_region 13 with fail
      go_region_with (go_at_call 52; refine (hsp _).mono ?_; rintro e w2 ⟨rfl, rfl⟩)
      go_wp2_with (first | ((with_reducible apply ldS256); (focus rfl); (first | assumption | (focus ((try simp (disch := (first | (simp only [sz_alloc, sz_set, sz_row, sz_drew, sz_drewN] <;> omega) | omega)) only [hq_eq, hq_ne, hq_set, hq_row, hq_drew, hq_drewN]) <;> (first | rfl | assumption))))) | ((with_reducible apply stS256); (focus rfl); (focus rfl); (first | assumption | (focus ((try simp (disch := (first | (simp only [sz_alloc, sz_set, sz_row, sz_drew, sz_drewN] <;> omega) | omega)) only [hq_eq, hq_ne, hq_set, hq_row, hq_drew, hq_drewN]) <;> (first | rfl | assumption))))))
      all_goals (clear hsp)
      focus
        go_loopw [11] (fun v wr => ∃ i : Nat, v = .int .i64 i ∧ (s[k]'hk0).toNat ≤ i ∧ i ≤ (s[k + 2]'h).toNat + 1 ∧ wr.heap[w.heap.size]? = some (.cells (setA noS) 39 (0, 0)) ∧ wr.heap[w.heap.size + 1]? = some (.cells (setA (upF (s[k]'hk0).toNat i)) 39 (0, 0)) ∧ Below w.heap.size w wr) (fun v _ => match v with | .int _ i => 257 - i.toNat | _ => 0)
        case atStart => exact ⟨(s[k]'hk0).toNat, rfl, Nat.le_refl _, by omega, q0, by rw [up_start]; exact q1, hBd⟩
        case round =>
          clear q0 q1 hB hBd
          obtain ⟨i, rfl, hi1, hi2, q0, q1, hB⟩ := hrel
          by_cases hlt : i ≤ (s[k + 2]'h).toNat
          · have hld : decide (i ≤ (s[k + 2]'h).toNat) = true := decide_eq_true hlt
            have hi256 : i < 256 := by omega
            have hcell := set_cell q1 hi256
            have hfr := free_of_heap q1 i
            have hbl := lt_of_heap q1
            go_wp2_with fail
            go_roundw
            case rel => exact ⟨i + 1, by simp, by omega, by omega, (hq_set (by simp)).trans q0, by rw [heap_setCell_at q1, set_true _ _ hi256, up_step _ _ hi1], hB.setCell (by simp) _⟩
            case measure => simp only [Int.toNat_natCast]; omega
          · have hld : decide (i ≤ (s[k + 2]'h).toNat) = false := decide_eq_false hlt
            have hi2 : i = (s[k + 2]'h).toNat + 1 := by omega
            rw [hi2, up_end] at q1
            go_wp2_with (first | ((with_reducible apply ldS256); (focus rfl); (first | assumption | (focus ((try simp (disch := (first | (simp only [sz_alloc, sz_set, sz_row, sz_drew, sz_drewN] <;> omega) | omega)) only [hq_eq, hq_ne, hq_set, hq_row, hq_drew, hq_drewN]) <;> (first | rfl | assumption))))) | ((with_reducible apply stS256); (focus rfl); (focus rfl); (first | assumption | (focus ((try simp (disch := (first | (simp only [sz_alloc, sz_set, sz_row, sz_drew, sz_drewN] <;> omega) | omega)) only [hq_eq, hq_ne, hq_set, hq_row, hq_drew, hq_drewN]) <;> (first | rfl | assumption))))))
            refine retSet rfl rfl rfl (setRow_heap _ _ _ _ _ _ q0) ?_
            rw [HXN.out]
            refine ⟨?_, below_setRow hB _ (Nat.le_refl _)⟩
            show _ = Ending.returned (.tuple #[.agg (setA (between (s[k]'hk0).toNat (s[k + 2]'h).toNat)), .int .i64 ((s.size : Int) - ((s.data.toList.drop (k + 3)).length : Nat)), .bool true])
            rw [HRL.out]; rfl
      focus
        go_loopw [11] (fun v wr => ∃ i : Nat, v = .int .i64 i ∧ (s[k]'hk0).toNat ≤ i ∧ i ≤ (s[k + 2]'h).toNat + 1 ∧ wr.heap[w.heap.size]? = some (.cells (setA noS) 39 (0, 0)) ∧ wr.heap[w.heap.size + 1]? = some (.cells (setA (upF (s[k]'hk0).toNat i)) 39 (0, 0)) ∧ Below w.heap.size w wr) (fun v _ => match v with | .int _ i => 257 - i.toNat | _ => 0)
        case atStart => exact ⟨(s[k]'hk0).toNat, rfl, Nat.le_refl _, by omega, q0, by rw [up_start]; exact q1, hBd⟩
        case round =>
          clear q0 q1 hB hBd
          obtain ⟨i, rfl, hi1, hi2, q0, q1, hB⟩ := hrel
          by_cases hlt : i ≤ (s[k + 2]'h).toNat
          · have hld : decide (i ≤ (s[k + 2]'h).toNat) = true := decide_eq_true hlt
            have hi256 : i < 256 := by omega
            have hcell := set_cell q1 hi256
            have hfr := free_of_heap q1 i
            have hbl := lt_of_heap q1
            go_wp2_with fail
            go_roundw
            case rel => exact ⟨i + 1, by simp, by omega, by omega, (hq_set (by simp)).trans q0, by rw [heap_setCell_at q1, set_true _ _ hi256, up_step _ _ hi1], hB.setCell (by simp) _⟩
            case measure => simp only [Int.toNat_natCast]; omega
          · have hld : decide (i ≤ (s[k + 2]'h).toNat) = false := decide_eq_false hlt
            have hi2 : i = (s[k + 2]'h).toNat + 1 := by omega
            rw [hi2, up_end] at q1
            go_wp2_with (first | ((with_reducible apply ldS256); (focus rfl); (first | assumption | (focus ((try simp (disch := (first | (simp only [sz_alloc, sz_set, sz_row, sz_drew, sz_drewN] <;> omega) | omega)) only [hq_eq, hq_ne, hq_set, hq_row, hq_drew, hq_drewN]) <;> (first | rfl | assumption))))) | ((with_reducible apply stS256); (focus rfl); (focus rfl); (first | assumption | (focus ((try simp (disch := (first | (simp only [sz_alloc, sz_set, sz_row, sz_drew, sz_drewN] <;> omega) | omega)) only [hq_eq, hq_ne, hq_set, hq_row, hq_drew, hq_drewN]) <;> (first | rfl | assumption))))))
            refine retSet rfl rfl rfl (setRow_heap _ _ _ _ _ _ q0) ?_
            rw [HXN.out]
            refine ⟨?_, below_setRow hB _ (Nat.le_refl _)⟩
            show _ = Ending.returned (.tuple #[.agg (setA (between (s[k]'hk0).toNat (s[k + 2]'h).toNat)), .int .i64 ((s.size : Int) - ((s.data.toList.drop (k + 3)).length : Nat)), .bool true])
            rw [HRL.out]; rfl
  · have hgt : decide ((s[k + 2]'h).toNat < (s[k]'hk0).toNat) = true := decide_eq_true (by omega)
    have hXn : clsPart (s.data.toList.drop k) = none := by rw [HX.out, if_neg (fun hx => hle hx.1)]
    have HXN := Lib.hid hXn
    clear hXn HX
    go_upto_region 13 with fail
    go_region
    go_wp2_with (first | ((with_reducible apply ldS256); (focus rfl); (first | assumption | (focus ((try simp (disch := (first | (simp only [sz_alloc, sz_set, sz_row, sz_drew, sz_drewN] <;> omega) | omega)) only [hq_eq, hq_ne, hq_set, hq_row, hq_drew, hq_drewN]) <;> (first | rfl | assumption))))) | ((with_reducible apply stS256); (focus rfl); (focus rfl); (first | assumption | (focus ((try simp (disch := (first | (simp only [sz_alloc, sz_set, sz_row, sz_drew, sz_drewN] <;> omega) | omega)) only [hq_eq, hq_ne, hq_set, hq_row, hq_drew, hq_drewN]) <;> (first | rfl | assumption))))))
    refine retSet rfl rfl rfl (setRow_heap _ _ _ _ _ _ q0) ?_
    rw [HXN.out]
    exact ⟨⟨noS, 0, rfl⟩, below_setRow hBd _ (Nat.le_refl _)⟩
end Go.Proofs.YtkbfckigndkkkaaDoor

/-
  Walks: the document's part of an expression in brackets, whatever stands there; its expressions.
-/
namespace Go.Proofs.YtkbfckigndkkkaaDoor
open Go Go.RowKit

theorem rpart_any (w : World) (s : ByteArray) (k : Nat) (hl : s.size ≤ 1000) (hk : k ≤ s.size) :
    Calls Tryd.prog 41 #[.string s, .int .i64 k] w (RPartOut w s.size (clsPart (s.data.toList.drop k))) := by
  rcases Nat.lt_or_ge k s.size with hlt | hge
  · by_cases h0 : clsKind (s.data.toList.drop k) = 0
    · by_cases h2 : k + 2 < s.size
      · cases h45 : (((s[k + 1]'(by omega)).toNat : Int) == 45) with
        | false => exact rpart_one w s k hl hlt h0 (.inr (.inl ⟨h2, h45⟩))
        | true =>
          cases h93 : (((s[k + 2]'h2).toNat : Int) != 93) with
          | false => exact rpart_one w s k hl hlt h0 (.inr (.inr ⟨h2, h45, h93⟩))
          | true => exact rpart_range w s k hl h2 h0 h45 h93
      · exact rpart_one w s k hl hlt h0 (.inl h2)
    · by_cases h58 : clsKind (s.data.toList.drop k) = 58
      · exact rpart_class w s k hl h58
      · exact rpart_dot w s k hl h0 h58
  · have : k = s.size := by omega
    subst this
    exact rpart_end w s hl
/-- The loop over the parts. -/
structure RcRel (w : World) (s : ByteArray) (G : Option ((UInt8 → Bool) × List UInt8)) (v u : Value) (wr : World) : Prop where
  ex : ∃ (n i : Nat) (first : Bool) (acc : UInt8 → Bool), v = .int .i64 i ∧ u = .bool first ∧ clsLoop n (s.data.toList.drop i) first acc = G ∧ s.size - i < n ∧ i ≤ s.size ∧
    wr.heap[w.heap.size]? = some (.cells (setA noS) 39 (0, 0)) ∧ wr.heap[w.heap.size + 1]? = some (.cells (setA acc) 39 (0, 0)) ∧ wr.heap[w.heap.size + 2]? = some (.cells (setA noS) 39 (0, 0)) ∧ Below w.heap.size w wr
theorem three_sets (w : World) : (((w.alloc (.cells (setA noS) 39)).alloc (.cells (setA noS) 39)).alloc (.cells (setA noS) 39)).heap[w.heap.size]? = some (.cells (setA noS) 39 (0, 0)) ∧
    (((w.alloc (.cells (setA noS) 39)).alloc (.cells (setA noS) 39)).alloc (.cells (setA noS) 39)).heap[w.heap.size + 1]? = some (.cells (setA noS) 39 (0, 0)) ∧
    (((w.alloc (.cells (setA noS) 39)).alloc (.cells (setA noS) 39)).alloc (.cells (setA noS) 39)).heap[w.heap.size + 2]? = some (.cells (setA noS) 39 (0, 0)) ∧
    Below w.heap.size w (((w.alloc (.cells (setA noS) 39)).alloc (.cells (setA noS) 39)).alloc (.cells (setA noS) 39)) :=
  ⟨(hq_ne (by rw [sz_alloc, sz_alloc]; omega)).trans ((hq_ne (by rw [sz_alloc]; omega)).trans (hq_eq rfl)), (hq_ne (by rw [sz_alloc, sz_alloc]; omega)).trans (hq_eq (by rw [sz_alloc])), hq_eq (by rw [sz_alloc, sz_alloc]),
    (((Below.refl _ _).alloc (Nat.le_refl _) _).alloc (by rw [sz_alloc]; omega) _).alloc (by rw [sz_alloc, sz_alloc]; omega) _⟩
/-- The expression that begins at a place. -/
theorem clsParse_at {s : ByteArray} {k : Nat} (hk : k < s.size) (h : (((s[k]'hk).toNat : Int) == 91) = true) (nt : Bool) (j : Nat) (hnt : nt = Lib.hasPrefix (s.data.toList.drop (k + 1)) [94]) (hj : j = if nt then k + 2 else k + 1) :
    clsParse (s.data.toList.drop k) = match clsLoop (s.size - k) (s.data.toList.drop j) true noS with | none => none | some (f, rest) => some (fun c => f c != nt, rest.drop 1) := by
  have h0 := drop_one_at hk
  have h91 : s[k]'hk = 91 := u8_eq (b := 91) (beq_iff_eq.1 h)
  have hpre : Lib.hasPrefix (s.data.toList.drop k) [91] = true := by rw [h0, h91]; simp [Lib.hasPrefix]
  rw [clsParse_pre hpre]
  have h1 : Lib.trimPrefix (s.data.toList.drop k) [91] = s.data.toList.drop (k + 1) := by rw [trimPrefix_yes hpre, List.drop_drop]; rfl
  have h2 : Lib.trimPrefix (s.data.toList.drop (k + 1)) [94] = s.data.toList.drop j := by
    cases hc : Lib.hasPrefix (s.data.toList.drop (k + 1)) [94] with
    | true =>
      rw [hc] at hnt; subst hnt
      rw [trimPrefix_yes hc, List.drop_drop, hj]; rfl
    | false =>
      rw [hc] at hnt; subst hnt
      rw [hj]
      unfold Lib.trimPrefix
      rw [if_neg (by rw [hc]; simp)]; rfl
  have hlen : (s.data.toList.drop k).length = s.size - k := by rw [List.length_drop, ← bytes_len]
  rw [h1, h2, hlen, ← hnt]
  rcases clsLoop _ _ _ _ with _ | ⟨f, r⟩ <;> rfl
theorem has_one {s : ByteArray} {k : Nat} (c : UInt8) : Lib.hasPrefix (s.data.toList.drop k) [c] = if h : k < s.size then (((s[k]'h).toNat : Int) == (c.toNat : Int)) else false := by
  split
  · rename_i h
    rw [drop_one_at h]
    rw [Bool.eq_iff_iff, beq_iff_eq]
    simp only [Lib.hasPrefix, List.isPrefixOf, Bool.and_true, beq_iff_eq]
    constructor
    · rintro rfl; rfl
    · intro e; exact (u8_eq e).symm
  · rename_i h
    rw [List.drop_of_length_le (by rw [← bytes_len]; omega)]
    rfl
end Go.Proofs.YtkbfckigndkkkaaDoor
