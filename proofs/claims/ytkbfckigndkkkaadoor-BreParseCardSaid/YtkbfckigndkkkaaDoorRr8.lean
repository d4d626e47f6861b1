/-
  Walks: the document's reader: a set; any part.
-/
import Derived.Test.YtkbfckigndkkkaaDoorRr7
import Derived.Test.YtkbfckigndkkkaaDoorRc6
import Derived.StillTailTactics
namespace Go.Proofs.YtkbfckigndkkkaaDoor
set_option linter.unusedSimpArgs false
set_option linter.unusedVariables false
open Go Go.RowKit

theorem wpStill_val {P : Program} {ops : Array Oper} {w : World} {Q : Act → Prop} {o : Oper} {rest : List Oper} {a : Act} {v : Value} (hg : o.guard = none) (h : (execOp a.eval o).run P w = .ok (.value v) w) (hK : wpStill P ops w Q rest (a.put o.dst v)) : wpStill P ops w Q (o :: rest) a := by
  have hw : Region.wanted o (yielded ops a.tmps) = true := by unfold Region.wanted; rw [hg]
  unfold wpStill
  rw [if_pos hw]
  unfold Oper.still
  rw [h]
  exact ⟨rfl, hK⟩
theorem build_rn (f : UInt8 → Bool) (w : World) : (Instr.build 60 #[(0, .int .i64 3), (2, .agg (setA f))]).run Tryd.prog w = .ok (.agg (ndA 3 0 f 0 0 0 (.slice none 0 0))) w := by
  simp [go_sem, Instr.build]
  rw [build_set]
set_option maxRecDepth 100000 in set_option maxHeartbeats 4000000 in
theorem rpart_set (w : World) (b : Nat) (s : ByteArray) (st : RSt) (D : Nat → Prop) (row : RSt → Fo × RSt) (first begun : Bool) (hP : RW w b s st) (hI : RInv s st) (hl : s.size ≤ 1000) (h0 : st.pl < s.size)
    (h91 : (((s[st.pl]'h0).toNat : Int) == 91) = true) :
    Calls Tryd.prog 21 #[.pointer (some ⟨b, 0, none⟩), .bool first, .bool begun] w (ROut b s D w (rPart row s st first begun)) := by
  have hX := rpart_at row h0 first begun
  have hc := u8_eq (b := 91) (beq_iff_eq.1 h91)
  rw [if_neg (by rw [hc]; decide), if_pos hc] at hX
  have h92 : (((s[st.pl]'h0).toNat : Int) == 92) = false := by rw [hc]; rfl
  have HC := Lib.hid hc
  have HX := Lib.hid hX
  clear hc hX
  have hsi := Lib.hid (rparse_any · s st.pl hl h0 h91)
  have hb := hP.lt
  have hP2 := hP.alloc (.cells (ndA 0 0 noS 0 0 0 (.slice none 0 0)) 60)
  have hU2 : Upd (atB b) w (w.alloc (.cells (ndA 0 0 noS 0 0 0 (.slice none 0 0)) 60)) := (Upd.refl _ _).alloc _
  have hq2 : (w.alloc (.cells (ndA 0 0 noS 0 0 0 (.slice none 0 0)) 60)).heap[w.heap.size]? = some (.cells (ndA 0 0 noS 0 0 0 (.slice none 0 0)) 60 (0, 0)) := hq_eq rfl
  have c0 := hP2.c0
  have c1 := hP2.c1
  have hbb := hP2.lt
  go_enter Tryd.func21, Tryd.ntmps21
  go_upto_region 1 with fail
  generalize w.alloc (.cells (ndA 0 0 noS 0 0 0 (.slice none 0 0)) 60) = W at *
  go_wp2_with fail
  refine (hsi.out W).mono ?_
  intro e w1 hout
  cases hq : clsParse (s.data.toList.drop st.pl) with
  | none =>
    rw [hq] at hout
    obtain ⟨⟨f, rfl⟩, hB⟩ := hout
    have hX := HX.out
    rw [hq] at hX
    have HX2 := Lib.hid hX
    clear hX hq
    have hP3 := (hP2.below hB).alloc (.cells (setA f) 39)
    have hU3 : Upd (atB b) w (w1.alloc (.cells (setA f) 39)) := (hU2.thenBelow hB (Nat.le_of_lt (lt_of_heap hq2))).alloc _
    have hq3 : (w1.alloc (.cells (setA f) 39)).heap[w.heap.size]? = some (.cells (ndA 0 0 noS 0 0 0 (.slice none 0 0)) 60 (0, 0)) := (heap_alloc_lt (Nat.lt_of_lt_of_le (lt_of_heap hq2) hB.size)).trans ((hB.block _ (lt_of_heap hq2)).trans hq2)
    have c6 := hP3.c6
    have f6 := hP3.free 1005
    have hbb3 := hP3.lt
    go_wp2_with (first | ((with_reducible apply stFresh2); (focus rfl); (focus rfl)) | ((with_reducible apply stRN); (focus rfl); (focus rfl); (focus ((try simp (disch := (first | (simp only [sz_alloc, sz_set, sz_row, sz_drew, sz_drewN] <;> omega) | omega)) only [hq_eq, hq_ne, hq_set, hq_row, hq_drew, hq_drewN]) <;> (first | rfl | assumption))); (focus (first | assumption | exact ndA_size _ _ _ _ _ _ _)); (focus (first | assumption | exact ndA_size _ _ _ _ _ _ _)); (focus (first | assumption | exact ndA_one _ _ _ _ _ _ _ rfl))))
    have hq4 := (hq_set (w := w1.alloc (.cells (setA f) 39)) (p := ⟨b, 1005, none⟩) (v := .bool true) (k := w.heap.size) (by simp only; omega)).trans hq3
    refine retRN rfl rfl rfl (setRow_heap _ _ _ _ _ _ hq4) (ndA_size _ _ _ _ _ _ _) ?_
    rw [HX2.out]
    exact ⟨.slice none 0 0, rfl, Rep.nilSlice _ _ _, (hP3.setBad true).setRow _ (by omega), (hU3.setCell ⟨b, 1005, none⟩ _ fun _ => rfl).setRow _ _ fun h => absurd h (by omega)⟩
  | some r =>
    obtain ⟨f, rest⟩ := r
    rw [hq] at hout
    obtain ⟨rfl, hB⟩ := hout
    have hX := HX.out
    rw [hq] at hX
    simp only at hX
    have hlen := clsParse_len hq
    have hdl : (s.data.toList.drop st.pl).length = s.size - st.pl := by rw [List.length_drop, ← bytes_len]
    have HX2 := Lib.hid hX
    have HL := Lib.hid hlen
    clear hX hq
    obtain ⟨nb, hnb⟩ : ∃ nb, s.size - rest.length - st.pl = nb := ⟨_, rfl⟩
    rw [hdl] at hlen
    have hP3 := (hP2.below hB).alloc (.cells (setA f) 39)
    have hU3 : Upd (atB b) w (w1.alloc (.cells (setA f) 39)) := (hU2.thenBelow hB (Nat.le_of_lt (lt_of_heap hq2))).alloc _
    have hq3 : (w1.alloc (.cells (setA f) 39)).heap[w.heap.size]? = some (.cells (ndA 0 0 noS 0 0 0 (.slice none 0 0)) 60 (0, 0)) := (heap_alloc_lt (Nat.lt_of_lt_of_le (lt_of_heap hq2) hB.size)).trans ((hB.block _ (lt_of_heap hq2)).trans hq2)
    have hs3 : (w1.alloc (.cells (setA f) 39)).heap[w1.heap.size]? = some (.cells (setA f) 39 (0, 0)) := hq_eq rfl
    have hnn : (s.size : Int) - (rest.length : Nat) - (st.pl : Int) = (nb : Int) := by omega
    go_wp2_with (first | ((with_reducible apply stFresh2); (focus rfl); (focus rfl)))
    generalize w1.alloc (.cells (setA f) 39) = w3 at *
    have c1' := hP3.drew.c1
    have hbb3 := hP3.drew.lt
    have hs3' : w3.drew.heap[w1.heap.size]? = some (.cells (setA f) 39 (0, 0)) := hs3
    have hld : (loadVar 39 ⟨w1.heap.size, 0, none⟩).run Tryd.prog w3.drew = .ok (.agg (setA f)) w3.drew := run_loadVar_row w3.drew w1.heap.size 39 39 (setA f) (0, 0) _ hs3' Tryd.underlying39 rfl (by rw [infoS256, setA_size])
    have hla : (Instr.loadAt 39 (.pointer (some ⟨w1.heap.size, 0, none⟩))).run Tryd.prog w3.drew = .ok (.agg (setA f)) w3.drew := by
      simp only [Instr.loadAt, Instr.sureAddr, Sem.run_bind, Sem.run_pure, Result.andThen]
      exact hld
    have hU4 := hU3.drew
    have hq4 : w3.drew.heap[w.heap.size]? = _ := hq3
    have hP4 := hP3.drew
    clear hP3 hU3 hq3 hs3
    refine wp_region_still_tail 9 (by kernel_rfl) (by kernel_rfl) ?_
    simp only [List.take_succ_cons, List.take_zero, List.drop_succ_cons, List.drop_zero]
    change wpStill _ _ w3.drew (fun a' => wpList _ _ _ _ a' w3.drew) _ _
    generalize w3.drew = wd at *
    still_step
    refine wpStill_val (v := .agg (setA f)) rfl ?_ ?_
    · simp [execOp, Act.eval, hla, Result.andThen]
    refine wpStill_val (v := .agg (ndA 3 0 f 0 0 0 (.slice none 0 0))) rfl ?_ ?_
    · simp [execOp, Act.eval, Act.put, build_rn, Result.andThen]
    repeat still_step
    refine wpStill_nil ?_
    have hnb1 : st.pl + nb ≤ s.size := by have := HL.out; omega
    have hPX := hP4
    have hUX := Upd.refl (atB b) wd
    have hU2 := hU4
    have hqX := hq4
    go_wp2_with fail
    refine (rnode_any _ b s _ _ nb hPX ⟨hI.pl, hI.many, hI.g⟩ hl (by omega) (ndA_size _ _ _ _ _ _ _) (ndA_one _ _ _ _ _ _ _ rfl)).mono ?_
    rintro e w2 ⟨rfl, hPY, hUY⟩
    have hZ : w2.heap[w.heap.size]? = some (.cells (ndA 0 0 noS 0 0 0 (.slice none 0 0)) 60 (0, 0)) := (hUY.block _ (lt_of_heap hqX) (by simp only [atB]; omega)).trans hqX
    go_wp2_with ((with_reducible apply stRN); (focus rfl); (focus rfl); (focus ((try simp (disch := (first | (simp only [sz_alloc, sz_set, sz_row, sz_drew, sz_drewN] <;> omega) | omega)) only [hq_eq, hq_ne, hq_set, hq_row, hq_drew, hq_drewN]) <;> (first | rfl | assumption))); (focus (first | assumption | exact ndA_size _ _ _ _ _ _ _)); (focus (first | assumption | exact ndA_size _ _ _ _ _ _ _)); (focus (first | assumption | exact ndA_one _ _ _ _ _ _ _ rfl)))
    refine retRN rfl rfl rfl (setRow_heap _ _ _ _ _ _ hZ) (ndA_size _ _ _ _ _ _ _) ?_
    rw [HX2.out, hnb]
    exact ⟨.slice none 0 0, rfl, Rep.nilSlice _ _ _, hPY.setRow _ (by omega), (hU2.trans hUY).setRow _ _ fun h => absurd h (by omega)⟩
theorem rnpart_any (w : World) (b : Nat) (s : ByteArray) (st : RSt) (D : Nat → Prop) (n : Nat) (first begun : Bool) (hrow : RRowSaid s n) (hP : RW w b s st) (hI : RInv s st) (hl : s.size ≤ 1000) (h0 : st.pl < s.size) (hg : st.g < 900) (hf : s.size - st.pl < n + 1) :
    Calls Tryd.prog 21 #[.pointer (some ⟨b, 0, none⟩), .bool first, .bool begun] w (ROut b s D w (rPart (fun x => rRow s n x .nil false) s st first begun)) := by
  by_cases e92 : s[st.pl]'h0 = 92
  · by_cases h2 : s.size - (st.pl + 2) < n
    · exact rpart_slash w b s st D n first begun hrow hP hI hl h0 hg h2 (by rw [e92]; rfl)
    · exact absurd (by omega) h2
  by_cases e91 : s[st.pl]'h0 = 91
  · exact rpart_set w b s st D _ first begun hP hI hl h0 (by rw [e91]; rfl)
  by_cases e46 : s[st.pl]'h0 = 46
  · exact rnpart_dot w b s st D _ first begun hP hI hl h0 (by rw [e46]; rfl)
  by_cases e94 : s[st.pl]'h0 = 94
  · cases first
    · exact rpart_caret w b s st D _ begun hP hI hl h0 e94
    · exact rpart_begin w b s st D _ begun hP hI hl h0 e94
  by_cases e36 : s[st.pl]'h0 = 36
  · by_cases he : st.pl + 1 = s.size
    · exact rpart_dollar1 w b s st D _ first begun hP hI hl h0 e36 he
    · cases hi : rIs s st [36, 92, 41] with
      | true => exact rpart_dollar2 w b s st D _ first begun hP hI hl h0 e36 he hi
      | false => exact rpart_dollar3 w b s st D _ first begun hP hI hl h0 e36 he hi
  by_cases e42 : s[st.pl]'h0 = 42
  · cases first <;> cases begun
    · exact rpart_star_ff w b s st D _ hP hI hl h0 e42
    · exact rpart_star_ft w b s st D _ hP hI hl h0 e42
    · exact rpart_star_tf w b s st D _ hP hI hl h0 e42
    · exact rpart_star_tt w b s st D _ hP hI hl h0 e42
  exact rpart_other w b s st D _ first begun hP hI hl h0 e92 e91 e46 e94 e36 e42
end Go.Proofs.YtkbfckigndkkkaaDoor
