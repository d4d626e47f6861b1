/-
  Walks: bre.Parse.
-/
import Derived.Test.YtkbfckigndkkkaaDoorBw7
import Derived.Defers
import Derived.Recover
namespace Go.Proofs.YtkbfckigndkkkaaDoor
set_option linter.unusedSimpArgs false
set_option linter.unusedVariables false
open Go Go.RowKit

/-- The deferred closure of a frame that returns. -/
theorem catch_idle (p q : Addr) (w : World) :
    CallsD Tryd.prog 12 #[.pointer (some p), .pointer (some q)] .returning w fun e u' w' => e = .returned (.tuple #[]) ∧ u' = .returning ∧ w' = w := by
  refine callsD_of_wpS Tryd.func12 rfl fun c₀ cs hu => ?_
  apply wpS_seq
  apply wpS_region
  simp [wpOpsS, go_sem, recoverD, hu, Tryd.ntmps12, Exit.thenS, Array.replicate_succ]
  refine wpS_of_wp ?_
  go_wp2
  cases c₀
  simp_all [bodyPostS, results, Tryd.results12]
@[go_sem] theorem assert_none (w : World) : (Instr.typeAssert (.iface 44 (.agg #[])) 20 44 true).run Tryd.prog w = .ok (.tuple #[.agg #[], .bool true]) w := by kernel_rfl
set_option maxRecDepth 100000 in set_option maxHeartbeats 400000 in
theorem catch_none (a b : Nat) (x y : Value) (w : World) (ha : w.cell? ⟨a, 0, none⟩ = some x) (hb : w.cell? ⟨b, 0, none⟩ = some y) (fa : w.frozen? ⟨a, 0, none⟩ = false) (fb : w.frozen? ⟨b, 0, none⟩ = false) (hab : a ≠ b) :
    CallsD Tryd.prog 12 #[.pointer (some ⟨a, 0, none⟩), .pointer (some ⟨b, 0, none⟩)] (.panicking nonePanic) w fun e u' w' => e = .returned (.tuple #[]) ∧ settle u' = .returning ∧ w' = ((w.setCell ⟨a, 0, none⟩ (.pointer none)).setCell ⟨b, 0, none⟩ (.int .i64 90)).alloc (.cells #[] 44) := by
  refine callsD_of_wpS Tryd.func12 rfl fun c₀ cs hu => ?_
  apply wpS_seq
  apply wpS_region
  simp [wpOpsS, go_sem, recoverD, hu, Tryd.ntmps12, Exit.thenS, nonePanic, Array.replicate_succ]
  refine wpS_of_wp ?_
  have la := lt_of_cell ha
  have lb := lt_of_cell hb
  go_wp2
  exact ⟨rfl, _, rfl, _, results_none rfl _ _ _, rfl, rfl, rfl⟩

/-- The frame of Parse leaves: its body has returned. -/
theorem leave_good (R : Ending → World → Prop) (tmps : Array Value) (w1 : World) (A : Nat) (p : Value) (h2 : tmps[2]?.getD undef = .pointer (some ⟨A, 0, none⟩)) (h3 : tmps[3]?.getD undef = .pointer (some ⟨A + 1, 0, none⟩))
    (hA0 : w1.heap[A]? = some (.cells #[p] 22 (0, 0))) (hA1 : w1.heap[A + 1]? = some (.cells #[.int .i64 0] 23 (0, 0))) (hp : ∃ x, p = .pointer x)
    (hR : R (.returned (.tuple #[p, .int .i64 0])) w1) :
    Leaves Tryd.prog Tryd.f4 tmps R [{ target := .fn (Fn.func 12) #[.pointer (some ⟨A, 0, none⟩), .pointer (some ⟨A + 1, 0, none⟩)], args := #[] }] .returning w1 := by
  refine leaves_cons (f := 12) (args := #[.pointer (some ⟨A, 0, none⟩), .pointer (some ⟨A + 1, 0, none⟩)]) (by simp) (by simp [go_sem]) ?_
  refine (catch_idle _ _ w1).mono ?_
  rintro e u' w2 ⟨rfl, rfl, rfl⟩
  obtain ⟨x, rfl⟩ := hp
  have r0 : w2.cell? ⟨A, 0, none⟩ = some (.pointer x) := by rw [cell_of_heap hA0]; rfl
  have r1 : w2.cell? ⟨A + 1, 0, none⟩ = some (.int .i64 0) := by rw [cell_of_heap hA1]; rfl
  simp [Leaves, settle, results, Tryd.results4, go_sem, h2, h3, r0, r1, hR]
/-- The same, where its body has panicked. -/
theorem leave_bad (R : Ending → World → Prop) (tmps : Array Value) (w1 : World) (A : Nat) (p : Value) (h2 : tmps[2]?.getD undef = .pointer (some ⟨A, 0, none⟩)) (h3 : tmps[3]?.getD undef = .pointer (some ⟨A + 1, 0, none⟩))
    (hA0 : w1.heap[A]? = some (.cells #[p] 22 (0, 0))) (hA1 : w1.heap[A + 1]? = some (.cells #[.int .i64 0] 23 (0, 0)))
    (hR : R (.returned (.tuple #[.pointer none, .int .i64 90])) (((w1.setCell ⟨A, 0, none⟩ (.pointer none)).setCell ⟨A + 1, 0, none⟩ (.int .i64 90)).alloc (.cells #[] 44))) :
    Leaves Tryd.prog Tryd.f4 tmps R [{ target := .fn (Fn.func 12) #[.pointer (some ⟨A, 0, none⟩), .pointer (some ⟨A + 1, 0, none⟩)], args := #[] }] (.panicking nonePanic) w1 := by
  refine leaves_cons (f := 12) (args := #[.pointer (some ⟨A, 0, none⟩), .pointer (some ⟨A + 1, 0, none⟩)]) (by simp [nonePanic]) (by simp [go_sem]) ?_
  refine (catch_none _ _ _ _ w1 (by rw [cell_of_heap hA0]; rfl) (by rw [cell_of_heap hA1]; rfl) (free_of_heap hA0 _) (free_of_heap hA1 _) (by omega)).mono ?_
  rintro e u' w2 ⟨rfl, hu, rfl⟩
  have q0 : (((w1.setCell ⟨A, 0, none⟩ (.pointer none)).setCell ⟨A + 1, 0, none⟩ (.int .i64 90)).alloc (.cells #[] 44)).heap[A]? = some (.cells #[.pointer none] 22 (0, 0)) := by
    rw [heap_alloc_lt (by simp; exact lt_of_heap hA0), hq_set (by simp)]; exact heap_setCell_at hA0 0 _
  have q1 : (((w1.setCell ⟨A, 0, none⟩ (.pointer none)).setCell ⟨A + 1, 0, none⟩ (.int .i64 90)).alloc (.cells #[] 44)).heap[A + 1]? = some (.cells #[.int .i64 90] 23 (0, 0)) := by
    rw [heap_alloc_lt (by simp; exact lt_of_heap hA1)]; exact heap_setCell_at ((hq_set (by simp)).trans hA1) 0 _
  generalize ((w1.setCell ⟨A, 0, none⟩ (.pointer none)).setCell ⟨A + 1, 0, none⟩ (.int .i64 90)).alloc (.cells #[] 44) = w2 at *
  have r0 : w2.cell? ⟨A, 0, none⟩ = some (.pointer none) := by rw [cell_of_heap q0]; rfl
  have r1 : w2.cell? ⟨A + 1, 0, none⟩ = some (.int .i64 90) := by rw [cell_of_heap q1]; rfl
  simp [Leaves, hu, results, Tryd.results4, go_sem, h2, h3, r0, r1, hR]
theorem Upd.belowSP {w w0 w1 : World} {b : Nat} (hB : Below w.heap.size w w0) (hU : Upd (SP b) w0 w1) (h : w.heap.size ≤ b) : Below w.heap.size w w1 :=
  hB.trans (hU.below hB.size fun k o hk hs => by rcases hs with hs | ⟨hs, -⟩ <;> omega)

/-- What Parse leaves. -/
def ParseOut (w : World) : Option (Fo × PSt) → Ending → World → Prop
  | none, e, w' => e = .returned (.tuple #[.pointer none, .int .i64 90]) ∧ Below w.heap.size w w'
  | some (fo, st), e, w' => ∃ b s v ov, e = .returned (.tuple #[.pointer (some ⟨b, 1, none⟩), .int .i64 0]) ∧ w.heap.size ≤ b ∧
      w'.heap[b]? = some (.cells #[.string s, v, .int .i64 st.g, .int .i64 st.m, .bool st.r, ov] 50 (0, 0)) ∧ Rep (fun j => w.heap.size ≤ j) 41 w' v fo ∧ Below w.heap.size w w'
set_option maxRecDepth 100000 in set_option maxHeartbeats 4000000 in
theorem parse_any (hcls : ClsSaid) (w : World) (s : ByteArray) (hE : Env w) (h4 : 4 ≤ w.heap.size) (hl : s.size ≤ 1000) :
    Calls Tryd.prog 4 #[.string s] w (ParseOut w (breS s.data.toList)) := by
  have hmf : ∀ (fn : Fn) (first cap : Array Value) (w : World), (Instr.makeFunc fn first cap).run Tryd.prog w = .ok (.func fn first cap) w := fun _ _ _ _ => rfl
  go_enter_defers Tryd.func4, Tryd.ntmps4
  go_wp2_with fail
  generalize hw0 : ((w.alloc (.cells #[.pointer none] 22)).alloc (.cells #[.int .i64 0] 23)).alloc (.cells #[.string s, .slice none 0 0, .int .i64 0, .int .i64 0, .bool false, .slice none 0 0] 50) = w0
  have hB0 : Below w.heap.size w w0 := by rw [← hw0]; exact (((Below.refl _ _).alloc (Nat.le_refl _) _).alloc (by simp) _).alloc (by simp; omega) _
  have hz0 : w0.heap.size = w.heap.size + 3 := by rw [← hw0]; simp
  have hA0 : w0.heap[w.heap.size]? = some (.cells #[.pointer none] 22 (0, 0)) := by rw [← hw0]; exact (by (focus ((try simp (disch := (first | (simp only [sz_alloc, sz_set, sz_row, sz_drew, sz_drewN] <;> omega) | omega)) only [hq_eq, hq_ne, hq_set, hq_row, hq_drew, hq_drewN]) <;> (first | rfl | assumption))))
  have hA1 : w0.heap[w.heap.size + 1]? = some (.cells #[.int .i64 0] 23 (0, 0)) := by rw [← hw0]; exact (by (focus ((try simp (disch := (first | (simp only [sz_alloc, sz_set, sz_row, sz_drew, sz_drewN] <;> omega) | omega)) only [hq_eq, hq_ne, hq_set, hq_row, hq_drew, hq_drewN]) <;> (first | rfl | assumption))))
  have hP : PW w0 (w.heap.size + 1 + 1) s 0 0 false (.slice none 0 0) := by rw [← hw0]; exact hq_eq (by simp)
  have hS0 : StW w0 (w.heap.size + 1 + 1) ⟨s.data.toList, 0, 0, false, []⟩ := ⟨s, _, rfl, hP, World.ownsRow_nil _ _ _ _⟩
  have hlen : s.data.toList.length ≤ 1000 := by rw [← bytes_len]; exact hl
  clear hw0
  refine (row_said hcls (s.data.toList.length + 1) w0 _ _ hS0 (hE.below hB0 h4) (by omega) (by simp) (by simp) (by simp) (by simp) (by simp) (by simp) hlen).mono ?_
  cases hq : rowS (s.data.toList.length + 1) ⟨s.data.toList, 0, 0, false, []⟩ .nil with
  | none =>
    rintro e w1 ⟨rfl, hU1⟩
    have hB1 : Below w.heap.size w w1 := Upd.belowSP hB0 hU1 (by omega)
    have hA0' := (hU1.block _ (by omega) (by rintro (h | ⟨h, -⟩) <;> omega)).trans hA0
    have hA1' := (hU1.block _ (by omega) (by rintro (h | ⟨h, -⟩) <;> omega)).trans hA1
    go_wp2_with fail
    have hX : breS s.data.toList = none := by rw [breS, hq]
    rw [hX]
    exact leave_bad _ _ w1 _ _ rfl rfl hA0' hA1' ⟨rfl, ((hB1.setCell (by simp) _).setCell (by simp) _).alloc (by simpa using hB1.size) _⟩
  | some r => 
    obtain ⟨fo, st⟩ := r
    rintro e w1 ⟨v, rfl, hR1, hS1, hU1⟩
    obtain ⟨a1, c1, rfl⟩ := hR1.slice
    obtain ⟨s1, ov, hs1, hP1, hO1⟩ := hS1
    have hB1 : Below w.heap.size w w1 := Upd.belowSP hB0 hU1 (by omega)
    have hA0' := (hU1.block _ (by omega) (by rintro (h | ⟨h, -⟩) <;> omega)).trans hA0
    have hA1' := (hU1.block _ (by omega) (by rintro (h | ⟨h, -⟩) <;> omega)).trans hA1
    have k1 : w1.cell? ⟨w.heap.size + 1 + 1, 1, none⟩ = some (.slice none 0 0) := by rw [cell_of_heap hP1]; rfl
    have k0 : w1.cell? ⟨w.heap.size + 1 + 1, 0, none⟩ = some (.string s1) := by rw [cell_of_heap hP1]; rfl
    have f1 := free_of_heap hP1 1
    have hb1 := hP1.lt
    have hP2 := heap_setCell_at hP1 1 (.slice a1 fo.tops.length c1)
    have hA02 := (hq_set (w := w1) (p := ⟨w.heap.size + 1 + 1, 1, none⟩) (v := .slice a1 fo.tops.length c1) (by simp only; omega)).trans hA0'
    have hA12 := (hq_set (w := w1) (p := ⟨w.heap.size + 1 + 1, 1, none⟩) (v := .slice a1 fo.tops.length c1) (by simp only; omega)).trans hA1'
    have hB2 := hB1.setCell (p := ⟨w.heap.size + 1 + 1, 1, none⟩) (by simp; omega) (.slice a1 fo.tops.length c1)
    have hR2 := hR1.keep (w' := w1.setCell ⟨w.heap.size + 1 + 1, 1, none⟩ (.slice a1 fo.tops.length c1)) (Keep.setCell _ _ fun k hk _ => by simp only; omega)
    cases hl0 : st.left with
    | cons c t =>
      have hne : s1.toList.isEmpty = false := by rw [bytes_toList, hs1, hl0]; rfl
      clear hs1
      go_wp2_with (go_at_call 14; refine (must_false _).mono ?_; rintro e w' ⟨rfl, rfl⟩)
      have hX : breS s.data.toList = none := by rw [breS, hq]; simp [hl0]
      rw [hX]
      exact leave_bad _ _ _ _ _ rfl rfl hA02 hA12 ⟨rfl, ((hB2.setCell (by simp) _).setCell (by simp) _).alloc (by simpa using hB2.size) _⟩
    | nil =>
      have hne : s1.toList.isEmpty = true := by rw [bytes_toList, hs1, hl0]; rfl
      clear hs1
      have q0 : w1.cell? ⟨w.heap.size, 0, none⟩ = some (.pointer none) := by rw [cell_of_heap hA0']; rfl
      have q1 : w1.cell? ⟨w.heap.size + 1, 0, none⟩ = some (.int .i64 0) := by rw [cell_of_heap hA1']; rfl
      have q2 := free_of_heap hA0' 0
      have q3 := free_of_heap hA1' 0
      go_wp2_with (go_at_call 14; refine (must_true _).mono ?_; rintro e w' ⟨rfl, rfl⟩)
      have hX : breS s.data.toList = some (fo, st) := by rw [breS, hq]; simp [hl0]
      rw [hX]
      have hP2' : (w1.setCell ⟨w.heap.size + 1 + 1, 1, none⟩ (.slice a1 fo.tops.length c1)).heap[w.heap.size + 1 + 1]? = some (.cells #[.string s1, .slice a1 fo.tops.length c1, .int .i64 st.g, .int .i64 st.m, .bool st.r, ov] 50 (0, 0)) := hP2
      generalize w1.setCell ⟨w.heap.size + 1 + 1, 1, none⟩ (.slice a1 fo.tops.length c1) = w2 at *
      refine leave_good _ _ _ w.heap.size (.pointer (some ⟨w.heap.size + 1 + 1, 1, none⟩)) rfl rfl ?_ ?_ ⟨_, rfl⟩ ?_
      · exact (hq_set (by simp)).trans (heap_setCell_at hA02 0 _)
      · exact heap_setCell_at ((hq_set (by simp)).trans hA12) 0 _
      · refine ⟨w.heap.size + 1 + 1, s1, .slice a1 fo.tops.length c1, ov, rfl, by omega, ?_, ?_, (hB2.setCell (by simp) _).setCell (by simp) _⟩
        · exact (hq_set (by simp)).trans ((hq_set (by simp only; omega)).trans hP2')
        · exact ((hR2.keep (Keep.setCell ⟨w.heap.size, 0, none⟩ _ fun k hk _ => by simp only; omega)).keep (Keep.setCell ⟨w.heap.size + 1, 0, none⟩ _ fun k hk _ => by simp only; omega)).mono fun k hk _ => by omega
end Go.Proofs.YtkbfckigndkkkaaDoor
