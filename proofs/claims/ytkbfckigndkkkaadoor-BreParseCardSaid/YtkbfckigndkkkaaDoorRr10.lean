/-
  Walk: the document's reader: a whole pattern.
-/
import Derived.Test.YtkbfckigndkkkaaDoorRr9
import Derived.Test.YtkbfckigndkkkaaDoorCls10
namespace Go.Proofs.YtkbfckigndkkkaaDoor
set_option linter.unusedSimpArgs false
set_option linter.unusedVariables false
open Go Go.RowKit

def st0 : RSt := ⟨0, 0, 0, fun _ => false, false, false⟩
/-- What the document reads of a text. -/
def refS (s : ByteArray) : Option (Fo × RSt) :=
  if (rRow s (s.size + 1) st0 .nil false).2.bad = true ∨ (rRow s (s.size + 1) st0 .nil false).2.pl ≠ s.size ∨ 9 < (rRow s (s.size + 1) st0 .nil false).2.g ∨ 200 < (rRow s (s.size + 1) st0 .nil false).2.many then none
  else some (rRow s (s.size + 1) st0 .nil false)
def RefOut (w : World) : Option (Fo × RSt) → Ending → World → Prop
  | none, e, w' => e = .returned (.tuple #[.pointer none, .int .i64 90]) ∧ Below w.heap.size w w'
  | some (fo, st), e, w' => ∃ b v, e = .returned (.tuple #[.pointer (some ⟨b, 0, none⟩), .int .i64 0]) ∧ w.heap.size ≤ b ∧ w'.heap[b]? = some (.cells #[v, .int .i64 st.g, .int .i64 st.many, .bool st.refs] 37 (0, 0)) ∧
      Rep (fun j => w.heap.size ≤ j ∧ j < b) 60 w' v fo ∧ Below w.heap.size w w'
theorem zeroRd (s : ByteArray) : Tryd.zeroCells56.setIfInBounds 0 (.string s) = rdA s st0 := by kernel_rfl
set_option maxRecDepth 100000 in set_option maxHeartbeats 4000000 in
theorem rparse_walk (w : World) (s : ByteArray) (hl : s.size ≤ 1000) : Calls Tryd.prog 5 #[.string s] w (RefOut w (refS s)) := by
  have hP : RW (w.alloc (.cells (rdA s st0) 56)) w.heap.size s st0 := hq_eq rfl
  have hB0 : Below w.heap.size w (w.alloc (.cells (rdA s st0) 56)) := (Below.refl _ _).alloc (Nat.le_refl _) _
  have hsz0 : (w.alloc (.cells (rdA s st0) 56)).heap.size = w.heap.size + 1 := sz_alloc _ _
  have hI : RInv s st0 := ⟨Nat.zero_le _, Nat.le_refl _, by simp [st0]⟩
  have hX : refS s = refS s := rfl
  conv at hX => rhs; unfold refS
  have hIY := (rRow_le s (s.size + 1) st0 .nil false hI).inv hI
  have hrow := rrow_said s hl (s.size + 1) (w.alloc (.cells (rdA s st0) 56)) w.heap.size st0 hP hI (by simp [st0])
  obtain ⟨⟨fo, st⟩, hY⟩ : ∃ Y, rRow s (s.size + 1) st0 .nil false = Y := ⟨_, rfl⟩
  rw [hY] at hX hrow hIY
  simp only at hX hIY
  have HX := Lib.hid hX
  have HRW := Lib.hid hrow
  clear hX hrow hY hI
  go_enter Tryd.func5, Tryd.ntmps5
  go_upto_region 2 with fail
  rw [zeroRd]
  generalize w.alloc (.cells (rdA s st0) 56) = W at *
  go_wp2_with fail
  refine HRW.out.mono ?_
  rintro e w1 ⟨v, rfl, hR, hP1, hU⟩
  have hB1 : Below w.heap.size w w1 := hB0.trans (below_atB hU (by omega))
  have c1 := hP1.c1
  have c2 := hP1.c2
  have c3 := hP1.c3
  have c5 := hP1.c5
  have c6 := hP1.c6
  have hbb := hP1.lt
  have hgb := hIY.g
  have hmb := hIY.many
  have hpb := hIY.pl
  cases hbad : st.bad with
  | true =>
    rw [hbad] at c6
    have hN : refS s = none := by rw [HX.out, if_pos (.inl hbad)]
    go_wp2_with fail
    go_ret2
    rw [hN]
    exact ⟨rfl, hB1⟩
  | false =>
    rw [hbad] at c6
    have HBAD := Lib.hid hbad
    clear hbad
    by_cases hpl : st.pl = s.size
    · have p1 : ((st.pl : Int) != (s.size : Int)) = false := by rw [bne_eq_false_iff_eq]; omega
      by_cases hg : 9 < st.g
      · have p2 : decide ((9 : Int) < (st.g : Int)) = true := decide_eq_true (by omega)
        have hN : refS s = none := by rw [HX.out, if_pos (.inr (.inr (.inl hg)))]
        have HPL := Lib.hid hpl
        clear hpl
        go_wp2_with fail
        go_ret2
        rw [hN]
        exact ⟨rfl, hB1⟩
      · have p2 : decide ((9 : Int) < (st.g : Int)) = false := decide_eq_false (by omega)
        by_cases hm : 200 < st.many
        · have p3 : decide ((200 : Int) < (st.many : Int)) = true := decide_eq_true (by omega)
          have hN : refS s = none := by rw [HX.out, if_pos (.inr (.inr (.inr hm)))]
          have HPL := Lib.hid hpl
          clear hpl
          go_wp2_with fail
          go_ret2
          rw [hN]
          exact ⟨rfl, hB1⟩
        · have p3 : decide ((200 : Int) < (st.many : Int)) = false := decide_eq_false (by omega)
          have hN : refS s = some (fo, st) := by
            rw [HX.out, if_neg]
            rintro (h | h | h | h)
            · rw [HBAD.out] at h; cases h
            · exact h hpl
            · exact hg h
            · exact hm h
          have HN := Lib.hid hN
          have HPL := Lib.hid hpl
          clear hpl hN
          have d2 := hP1.drew.c2
          have d3 := hP1.drew.c3
          have d5 := hP1.drew.c5
          have hbd := hP1.drew.lt
          obtain ⟨va, vc, rfl⟩ := hR.slice
          go_wp2_with fail
          go_region
          go_wp2_with fail
          go_ret2
          rw [HN.out]
          refine ⟨w1.heap.size, .slice va fo.tops.length vc, rfl, hB1.size, (by (focus ((try simp (disch := (first | (simp only [sz_alloc, sz_set, sz_row, sz_drew, sz_drewN] <;> omega) | omega)) only [hq_eq, hq_ne, hq_set, hq_row, hq_drew, hq_drewN]) <;> (first | rfl | assumption)))), ?_, ?_⟩
          · exact ((hR.mono (D' := fun j => w.heap.size ≤ j ∧ j < w1.heap.size) fun j hj hlt => ⟨by omega, hlt⟩).drew).keep (Keep.alloc _)
          · have hB1d : Below w.heap.size w w1.drew := ⟨hB1.os, hB1.tape, hB1.output, hB1.size, hB1.block⟩
            exact hB1d.alloc hB1.size _
    · have p1 : ((st.pl : Int) != (s.size : Int)) = true := by rw [bne_iff_ne]; omega
      have hN : refS s = none := by rw [HX.out, if_pos (.inr (.inl hpl))]
      have HPL := Lib.hid hpl
      clear hpl
      go_wp2_with fail
      go_ret2
      rw [hN]
      exact ⟨rfl, hB1⟩
end Go.Proofs.YtkbfckigndkkkaaDoor
