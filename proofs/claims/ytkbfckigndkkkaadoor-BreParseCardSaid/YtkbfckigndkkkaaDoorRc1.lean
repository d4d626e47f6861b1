/-
  Walk: the document's classes.
-/
import Derived.Test.YtkbfckigndkkkaaDoorCls10
import Derived.Deep.Cut
import Derived.Deep.CutRange
namespace Go.Proofs.YtkbfckigndkkkaaDoor
set_option linter.unusedSimpArgs false
set_option linter.unusedVariables false
open Go Go.RowKit

/-- Is a byte in a class, and is there such a class? -/
def inF (name : List UInt8) (c : UInt8) : Bool × Bool := match clsOf name with | some f => (f c, true) | none => (false, false)
set_option maxRecDepth 100000 in set_option maxHeartbeats 4000000 in
theorem in_any (w : World) (s : ByteArray) (c : UInt8) :
    Calls Tryd.prog 62 #[.string s, .int .u8 c.toNat] w fun e w' => e = .returned (.tuple #[.bool (inF s.data.toList c).1, .bool (inF s.data.toList c).2]) ∧ w' = w := by
  go_enter Tryd.func62, Tryd.ntmps62
  go_upto_region 1 with fail
  go_cut [6, 7, 8] from 10 (fun v6 v7 v8 wx => v6 = .bool (between 97 122 c) ∧ v7 = .bool (between 65 90 c) ∧ v8 = .bool (between 48 57 c) ∧ w = wx)
  case first =>
    go_wp2_with fail
    all_goals go_meet
    all_goals (refine ⟨congrArg Value.bool ?_, congrArg Value.bool ?_, congrArg Value.bool ?_, rfl⟩)
    all_goals (unfold between; (rw [Bool.eq_iff_iff]; simp only [Bool.or_eq_true, Bool.and_eq_true, decide_eq_true_eq, beq_iff_eq, Bool.false_eq_true]; constructor <;> intro _ <;> (first | contradiction | omega)))
  case rest =>
    obtain ⟨rfl, rfl, rfl, rfl⟩ := hcut
    go_upto_region 2 with fail
    go_cut [9] from 10 (fun v9 wx => v9 = .bool (between 33 126 c) ∧ w = wx)
    case first =>
      go_wp2_with fail
      all_goals go_meet
      all_goals (refine ⟨congrArg Value.bool ?_, rfl⟩)
      all_goals (unfold between; (rw [Bool.eq_iff_iff]; simp only [Bool.or_eq_true, Bool.and_eq_true, decide_eq_true_eq, beq_iff_eq, Bool.false_eq_true]; constructor <;> intro _ <;> (first | contradiction | omega)))
    case rest =>
      obtain ⟨rfl, rfl⟩ := hcut
      go_wp2_with fail
      all_goals go_ret2
      all_goals (refine ⟨?_, rfl⟩)
      all_goals (simp only [bytes_toList, beq_iff_eq, beq_eq_false_iff_ne, ne_eq] at *)
      all_goals (simp [inF, clsOf, *])
      all_goals (try (unfold between at *))
      all_goals (try simp at *)
      all_goals (try omega)
      all_goals (rw [Bool.eq_iff_iff]; simp only [Bool.or_eq_true, Bool.and_eq_true, decide_eq_true_eq, beq_iff_eq, Bool.false_eq_true]; constructor <;> intro _ <;> (first | contradiction | omega))
end Go.Proofs.YtkbfckigndkkkaaDoor

/-
  Walks: the document's classes: the set of a class; what stands ahead.
-/
namespace Go.Proofs.YtkbfckigndkkkaaDoor
open Go Go.RowKit

/-- The first i bytes as g says, the others as h. -/
def mixF (g h : UInt8 → Bool) (i : Nat) : UInt8 → Bool := fun c => if c.toNat < i then g c else h c
theorem mix_step (g h : UInt8 → Bool) (i : Nat) (hlt : i < 256) {x : Bool} (hx : x = g (UInt8.ofNat i)) : (setA (mixF g h i)).setIfInBounds i (.bool x) = setA (mixF g h (i + 1)) := by
  have hto : (UInt8.ofNat i).toNat = i := by simp; omega
  apply Array.ext_getElem?
  intro j
  rw [Array.getElem?_setIfInBounds]
  have e : ∀ h : UInt8 → Bool, (setA h)[j]? = (setL h)[j]? := fun h => by simp [setA]
  by_cases hj : i = j
  · subst hj
    rw [if_pos rfl, if_pos (by simp; exact hlt), e, setL_get _ i hlt, hx]
    simp only [mixF, hto, if_pos (Nat.lt_succ_self i)]
  · rw [if_neg hj, e, e]
    rcases Nat.lt_or_ge j 256 with h' | h'
    · rw [setL_get _ j h', setL_get _ j h']
      have hjt : (UInt8.ofNat j).toNat = j := by simp; omega
      congr 2
      simp only [mixF, hjt]
      by_cases h1 : j < i
      · rw [if_pos h1, if_pos (by omega)]
      · rw [if_neg h1, if_neg (by omega)]
    · rw [List.getElem?_eq_none (by rw [setL_length]; exact h'), List.getElem?_eq_none (by rw [setL_length]; exact h')]
theorem mix_end (g h : UInt8 → Bool) : mixF g h 256 = g := by
  funext c
  have : c.toNat < 256 := c.toNat_lt
  simp [mixF, this]
theorem mix_start (g h : UInt8 → Bool) : mixF g h 0 = h := by
  funext c
  simp [mixF]
theorem mix_at (g h : UInt8 → Bool) (i : Nat) (hlt : i < 256) : mixF g h i (UInt8.ofNat i) = h (UInt8.ofNat i) := by
  have hto : (UInt8.ofNat i).toNat = i := by simp; omega
  simp [mixF, hto]
theorem wrap_u8 {i : Nat} (hlt : i < 256) : IntKind.u8.wrap (i : Int) = (i : Int) := by
  have hsg : IntKind.u8.signed = false := rfl
  simp [IntKind.wrap, IntKind.bits, hsg]; omega
theorem set_cell {w : World} {b i : Nat} {f : UInt8 → Bool} {t : TypeId} {fr : Nat × Nat} (h : w.heap[b]? = some (.cells (setA f) t fr)) (hlt : i < 256) : w.cell? ⟨b, i, none⟩ = some (.bool (f (UInt8.ofNat i))) := by
  rw [cell_of_heap h]; simp only [setA, List.getElem?_toArray, setL_get _ i hlt]
section
variable {a : Act} {w : World}
theorem results_set2 {fn : Func} {p u : Tmp} (hf : fn.results = #[.cell p 39, .tmp u]) (tmps : Array Value) (w : World) (g : Nat) (t : TypeId) (f : UInt8 → Bool) (fr : Nat × Nat)
    (hp : tmps.getD p undef = .pointer (some ⟨g, 0, none⟩)) (hg : w.heap[g]? = some (.cells (setA f) t fr)) :
    (results fn tmps).run Tryd.prog w = .ok (.tuple #[.agg (setA f), tmps.getD u undef]) w := by
  have hp' : tmps[p]?.getD undef = .pointer (some ⟨g, 0, none⟩) := by simpa using hp
  simp [results, hf, hp', asAddr, run_loadVar_row w g t 39 (setA f) fr _ hg Tryd.underlying39 rfl (by rw [infoS256, setA_size])]
theorem retSet2 {fn : Func} {R : Ending → World → Prop} {p u : Tmp} {g : Nat} {f : UInt8 → Bool} {t : TypeId} {fr : Nat × Nat} (hf : fn.results = #[.cell p 39, .tmp u]) (hd : a.defers = [])
    (hp : a.tmps.getD p undef = .pointer (some ⟨g, 0, none⟩)) (hg : w.heap[g]? = some (.cells (setA f) t fr)) (hR : R (.returned (.tuple #[.agg (setA f), a.tmps.getD u undef])) w) : bodyPost Tryd.prog fn R .ret a w :=
  bodyPost_ret (results_set2 hf a.tmps w g t f fr hp hg) hd hR
end
set_option maxRecDepth 100000 in set_option maxHeartbeats 4000000 in
theorem class_any (w : World) (s : ByteArray) :
    Calls Tryd.prog 53 #[.string s] w fun e w' => e = .returned (.tuple #[.agg (setA fun c => (inF s.data.toList c).1), .bool (inF s.data.toList 0).2]) ∧ Below w.heap.size w w' := by
  have h0 : ∀ w : World, Calls Tryd.prog 62 #[.string s, .int .u8 0] w fun e w' => e = .returned (.tuple #[.bool (inF s.data.toList 0).1, .bool (inF s.data.toList 0).2]) ∧ w' = w := fun w => in_any w s 0
  have q0 : ((w.alloc (.cells (setA noS) 39)).alloc (.cells (setA noS) 39)).heap[w.heap.size]? = some (.cells (setA noS) 39 (0, 0)) := (hq_ne (by rw [sz_alloc]; omega)).trans (hq_eq rfl)
  have q1 : ((w.alloc (.cells (setA noS) 39)).alloc (.cells (setA noS) 39)).heap[w.heap.size + 1]? = some (.cells (setA noS) 39 (0, 0)) := hq_eq (by rw [sz_alloc])
  have hB0 : Below w.heap.size w ((w.alloc (.cells (setA noS) 39)).alloc (.cells (setA noS) 39)) := ((Below.refl _ _).alloc (Nat.le_refl _) _).alloc (by rw [sz_alloc]; omega) _
  go_enter Tryd.func53, Tryd.ntmps53
  go_wp2_with fail
  rw [zeroSet]
  generalize (w.alloc (.cells (setA noS) 39)).alloc (.cells (setA noS) 39) = W at *
  refine (h0 _).mono ?_
  rintro e w1 ⟨rfl, rfl⟩
  go_wp2_with fail
  go_loopw [7] (fun v wr => ∃ i : Nat, i ≤ 256 ∧ v = .int .i64 i ∧ wr.heap[w.heap.size]? = some (.cells (setA noS) 39 (0, 0)) ∧ wr.heap[w.heap.size + 1]? = some (.cells (setA (mixF (fun c => (inF s.data.toList c).1) noS i)) 39 (0, 0)) ∧ Below w.heap.size w wr) (fun v _ => match v with | .int _ i => 256 - i.toNat | _ => 0)
  case atStart => exact ⟨0, by omega, rfl, q0, by rw [mix_start]; exact q1, hB0⟩
  case round =>
    clear q0 q1 hB0
    obtain ⟨i, hi, rfl, q0, q1, hB⟩ := hrel
    rcases Nat.lt_or_ge i 256 with hlt | hge
    · have hfr := free_of_heap q1 i
      have hbl := lt_of_heap q1
      have hu := set_cell q1 hlt
      have hto : (UInt8.ofNat i).toNat = i := by simp; omega
      have hwr := wrap_u8 hlt
      have h1 : ∀ w : World, Calls Tryd.prog 62 #[.string s, .int .u8 (i : Int)] w fun e w' => e = .returned (.tuple #[.bool (inF s.data.toList (UInt8.ofNat i)).1, .bool (inF s.data.toList (UInt8.ofNat i)).2]) ∧ w' = w := by
        intro w; have := in_any w s (UInt8.ofNat i); rwa [hto] at this
      go_wp2_with fail
      refine (h1 _).mono ?_
      rintro e w1 ⟨rfl, rfl⟩
      go_wp2_with fail
      go_roundw
      case rel => exact ⟨i + 1, hlt, by simp, (hq_set (by simp)).trans q0, by rw [← mix_step _ _ _ hlt rfl]; exact heap_setCell_at q1 i _, hB.setCell (by simp) _⟩
      case measure => simp only [Int.toNat_natCast]; omega
    · have hi2 : i = 256 := by omega
      subst hi2
      rw [mix_end] at q1
      go_wp2_with (first | ((with_reducible apply ldS256); (focus rfl); (first | assumption | (focus ((try simp (disch := (first | (simp only [sz_alloc, sz_set, sz_row, sz_drew, sz_drewN] <;> omega) | omega)) only [hq_eq, hq_ne, hq_set, hq_row, hq_drew, hq_drewN]) <;> (first | rfl | assumption))))) | ((with_reducible apply stS256); (focus rfl); (focus rfl); (first | assumption | (focus ((try simp (disch := (first | (simp only [sz_alloc, sz_set, sz_row, sz_drew, sz_drewN] <;> omega) | omega)) only [hq_eq, hq_ne, hq_set, hq_row, hq_drew, hq_drewN]) <;> (first | rfl | assumption))))))
      refine retSet2 rfl rfl rfl (setRow_heap _ _ _ _ _ _ q0) ⟨rfl, below_setRow hB _ (Nat.le_refl _)⟩
theorem drop_two {s : ByteArray} {k : Nat} (h : k + 1 < s.size) : ∃ t, s.data.toList.drop k = s[k]'(by omega) :: s[k + 1]'h :: t ∧ t = s.data.toList.drop (k + 2) := by
  have hl := bytes_len s
  refine ⟨s.data.toList.drop (k + 2), ?_, rfl⟩
  rw [List.drop_eq_getElem_cons (i := k) (by omega), List.drop_eq_getElem_cons (i := k + 1) (by omega)]
  rfl
set_option maxRecDepth 100000 in set_option maxHeartbeats 4000000 in
theorem special_any (w : World) (s : ByteArray) (k : Nat) (hk : k ≤ s.size) (hl : s.size ≤ 1000) :
    Calls Tryd.prog 52 #[.string s, .int .i64 k] w fun e w' => e = .returned (.bool (decide (clsKind (s.data.toList.drop k) ≠ 0))) ∧ w' = w := by
  by_cases h1 : k + 1 < s.size
  · obtain ⟨t, ht, -⟩ := drop_two h1
    have hK : decide (clsKind (s.data.toList.drop k) ≠ 0) = (((s[k]'(by omega)).toNat : Int) == 91 && (((s[k + 1]'h1).toNat : Int) == 58 || ((s[k + 1]'h1).toNat : Int) == 46 || ((s[k + 1]'h1).toNat : Int) == 61)) := by
      rw [ht]
      show decide ((if _ then _ else _) ≠ (0 : UInt8)) = _
      have e : ∀ (x : UInt8) (n : Nat) (hn : n < 256), (((x.toNat : Int) == (n : Int)) = decide (x = UInt8.ofNat n)) := by
        intro x n hn
        rw [Bool.eq_iff_iff, beq_iff_eq, decide_eq_true_iff, ← UInt8.toNat_inj]
        have : (UInt8.ofNat n).toNat = n := by simp; omega
        rw [this]; omega
      rw [show ((((s[k]'(by omega)).toNat : Int) == 91)) = _ from e _ 91 (by decide), show ((((s[k + 1]'h1).toNat : Int) == 58)) = _ from e _ 58 (by decide), show ((((s[k + 1]'h1).toNat : Int) == 46)) = _ from e _ 46 (by decide), show ((((s[k + 1]'h1).toNat : Int) == 61)) = _ from e _ 61 (by decide)]
      generalize s[k]'(by omega) = a
      generalize s[k + 1]'h1 = b
      by_cases ha : a = 91
      · subst ha
        by_cases hb : b = 58
        · subst hb; rfl
        · by_cases hc : b = 46
          · subst hc; rfl
          · by_cases hd : b = 61
            · subst hd; rfl
            · simp [hb, hc, hd]
      · simp [ha]
    rw [hK]
    generalize hB : (((s[k]'(by omega)).toNat : Int) == 91 && (((s[k + 1]'h1).toNat : Int) == 58 || ((s[k + 1]'h1).toNat : Int) == 46 || ((s[k + 1]'h1).toNat : Int) == 61)) = B
    have HB := Lib.hid hB
    clear hB hK ht
    have hk0 : k < s.size := by omega
    go_enter Tryd.func52, Tryd.ntmps52
    go_wp2_with fail
    all_goals go_ret
    all_goals (refine ⟨?_, rfl⟩)
    all_goals (rw [← HB.out]; simp [*])
  · have hK : clsKind (s.data.toList.drop k) = 0 := by
      have hl := bytes_len s
      rcases h : s.data.toList.drop k with _ | ⟨a, _ | ⟨b, t⟩⟩
      · rfl
      · rfl
      · have := congrArg List.length h
        simp only [List.length_drop, List.length_cons] at this
        omega
    rw [hK]
    go_enter Tryd.func52, Tryd.ntmps52
    go_wp2_with fail
    go_ret
    exact ⟨rfl, rfl⟩
end Go.Proofs.YtkbfckigndkkkaaDoor
