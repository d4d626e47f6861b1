/-
  Walks: the document's reader: parts that are one byte.
-/
import Derived.Test.YtkbfckigndkkkaaDoorRr5
namespace Go.Proofs.YtkbfckigndkkkaaDoor
set_option linter.unusedSimpArgs false
set_option linter.unusedVariables false
open Go Go.RowKit

set_option maxRecDepth 100000 in set_option maxHeartbeats 4000000 in
theorem rpart_begin (w : World) (b : Nat) (s : ByteArray) (st : RSt) (D : Nat → Prop) (row : RSt → Fo × RSt) (begun : Bool) (hP : RW w b s st) (hI : RInv s st) (hl : s.size ≤ 1000) (h0 : st.pl < s.size)
    (hc : s[st.pl]'h0 = 94) :
    Calls Tryd.prog 21 #[.pointer (some ⟨b, 0, none⟩), .bool true, .bool begun] w (ROut b s D w (rPart row s st true begun)) := by
  have hX := rpart_at row h0 true begun
  rw [if_neg (by rw [hc]; decide), if_neg (by rw [hc]; decide), if_neg (by rw [hc]; decide), if_pos ⟨hc, rfl⟩] at hX
  rw [hX]
  clear hX
  have h92 : (((s[st.pl]'h0).toNat : Int) == 92) = false := by rw [hc]; rfl
  have h91 : (((s[st.pl]'h0).toNat : Int) == 91) = false := by rw [hc]; rfl
  have h46 : (((s[st.pl]'h0).toNat : Int) == 46) = false := by rw [hc]; rfl
  have h94 : (((s[st.pl]'h0).toNat : Int) == 94) = true := by rw [hc]; rfl
  have h36 : (((s[st.pl]'h0).toNat : Int) == 36) = false := by rw [hc]; rfl
  have h42 : (((s[st.pl]'h0).toNat : Int) == 42) = false := by rw [hc]; rfl
  have HC := Lib.hid hc
  clear hc
  have hb := hP.lt
  have hP2 := hP.alloc (.cells (ndA 0 0 noS 0 0 0 (.slice none 0 0)) 60)
  have hU2 : Upd (atB b) w (w.alloc (.cells (ndA 0 0 noS 0 0 0 (.slice none 0 0)) 60)) := (Upd.refl _ _).alloc _
  have hq2 : (w.alloc (.cells (ndA 0 0 noS 0 0 0 (.slice none 0 0)) 60)).heap[w.heap.size]? = some (.cells (ndA 0 0 noS 0 0 0 (.slice none 0 0)) 60 (0, 0)) := hq_eq rfl
  have c0 := hP2.c0
  have c1 := hP2.c1
  have hbb := hP2.lt
  go_enter Tryd.func21, Tryd.ntmps21
  go_upto_region 1 with fail
  generalize w.alloc (.cells (ndA 0 0 noS 0 0 0 (.slice none 0 0)) 60) = W at *
  have hPX := hP2
  have hUX := Upd.refl (atB b) W
  have hqX := hq2
  go_wp2_with fail
  refine (rnode_any _ b s _ _ 1 hPX ⟨hI.pl, hI.many, hI.g⟩ hl (by decide) (by first | exact ndA_size _ _ _ _ _ _ _ | simp) (by first | exact ndA_one _ _ _ _ _ _ _ rfl | (simp; exact ndA_one _ _ _ _ _ _ _ rfl))).mono ?_
  rintro e w2 ⟨rfl, hPY, hUY⟩
  have hZ : w2.heap[w.heap.size]? = some (.cells (ndA 0 0 noS 0 0 0 (.slice none 0 0)) 60 (0, 0)) := (hUY.block _ (lt_of_heap hqX) (by simp only [atB]; omega)).trans hqX
  go_wp2_with ((with_reducible apply stRN); (focus rfl); (focus rfl); (focus ((try simp (disch := (first | (simp only [sz_alloc, sz_set, sz_row, sz_drew, sz_drewN] <;> omega) | omega)) only [hq_eq, hq_ne, hq_set, hq_row, hq_drew, hq_drewN]) <;> (first | rfl | assumption))); (focus (first | assumption | exact ndA_size _ _ _ _ _ _ _)); (focus (first | assumption | exact ndA_size _ _ _ _ _ _ _)); (focus (first | assumption | exact ndA_one _ _ _ _ _ _ _ rfl)))
  refine retRN rfl rfl rfl (setRow_heap _ _ _ _ _ _ hZ) (by first | exact ndA_size _ _ _ _ _ _ _ | simp) ?_
  exact ⟨.slice none 0 0, rfl, Rep.nilSlice _ _ _, hPY.setRow _ (by omega), ((hU2.trans hUX).trans hUY).setRow _ _ fun h => absurd h (by omega)⟩

set_option maxRecDepth 100000 in set_option maxHeartbeats 4000000 in
theorem rpart_caret (w : World) (b : Nat) (s : ByteArray) (st : RSt) (D : Nat → Prop) (row : RSt → Fo × RSt) (begun : Bool) (hP : RW w b s st) (hI : RInv s st) (hl : s.size ≤ 1000) (h0 : st.pl < s.size)
    (hc : s[st.pl]'h0 = 94) :
    Calls Tryd.prog 21 #[.pointer (some ⟨b, 0, none⟩), .bool false, .bool begun] w (ROut b s D w (rPart row s st false begun)) := by
  have hX := rpart_at row h0 false begun
  rw [if_neg (by rw [hc]; decide), if_neg (by rw [hc]; decide), if_neg (by rw [hc]; decide), if_neg (fun h => by cases h.2), if_neg (by rw [hc]; rintro ⟨h, -⟩; revert h; decide)] at hX
  have hb0 : (st.bad || (decide (s[st.pl]'h0 = 42) && !false && !begun)) = st.bad := by rw [hc]; simp
  rw [hb0] at hX
  rw [hX]
  clear hX
  have h92 : (((s[st.pl]'h0).toNat : Int) == 92) = false := by rw [hc]; rfl
  have h91 : (((s[st.pl]'h0).toNat : Int) == 91) = false := by rw [hc]; rfl
  have h46 : (((s[st.pl]'h0).toNat : Int) == 46) = false := by rw [hc]; rfl
  have h94 : (((s[st.pl]'h0).toNat : Int) == 94) = true := by rw [hc]; rfl
  have h36 : (((s[st.pl]'h0).toNat : Int) == 36) = false := by rw [hc]; rfl
  have h42 : (((s[st.pl]'h0).toNat : Int) == 42) = false := by rw [hc]; rfl
  have HC := Lib.hid hc
  clear hc
  have hb := hP.lt
  have hP2 := hP.alloc (.cells (ndA 0 0 noS 0 0 0 (.slice none 0 0)) 60)
  have hU2 : Upd (atB b) w (w.alloc (.cells (ndA 0 0 noS 0 0 0 (.slice none 0 0)) 60)) := (Upd.refl _ _).alloc _
  have hq2 : (w.alloc (.cells (ndA 0 0 noS 0 0 0 (.slice none 0 0)) 60)).heap[w.heap.size]? = some (.cells (ndA 0 0 noS 0 0 0 (.slice none 0 0)) 60 (0, 0)) := hq_eq rfl
  have c0 := hP2.c0
  have c1 := hP2.c1
  have hbb := hP2.lt
  go_enter Tryd.func21, Tryd.ntmps21
  go_upto_region 1 with fail
  generalize w.alloc (.cells (ndA 0 0 noS 0 0 0 (.slice none 0 0)) 60) = W at *
  have hPX := hP2
  have hUX := Upd.refl (atB b) W
  have hqX := hq2
  go_wp2_with fail
  refine (rnode_any _ b s _ _ 1 hPX ⟨hI.pl, hI.many, hI.g⟩ hl (by decide) (by first | exact ndA_size _ _ _ _ _ _ _ | simp) (by first | exact ndA_one _ _ _ _ _ _ _ rfl | (simp; exact ndA_one _ _ _ _ _ _ _ rfl))).mono ?_
  rintro e w2 ⟨rfl, hPY, hUY⟩
  have hZ : w2.heap[w.heap.size]? = some (.cells (ndA 0 0 noS 0 0 0 (.slice none 0 0)) 60 (0, 0)) := (hUY.block _ (lt_of_heap hqX) (by simp only [atB]; omega)).trans hqX
  go_wp2_with ((with_reducible apply stRN); (focus rfl); (focus rfl); (focus ((try simp (disch := (first | (simp only [sz_alloc, sz_set, sz_row, sz_drew, sz_drewN] <;> omega) | omega)) only [hq_eq, hq_ne, hq_set, hq_row, hq_drew, hq_drewN]) <;> (first | rfl | assumption))); (focus (first | assumption | exact ndA_size _ _ _ _ _ _ _)); (focus (first | assumption | exact ndA_size _ _ _ _ _ _ _)); (focus (first | assumption | exact ndA_one _ _ _ _ _ _ _ rfl)))
  refine retRN rfl rfl rfl (setRow_heap _ _ _ _ _ _ hZ) (by first | exact ndA_size _ _ _ _ _ _ _ | simp) ?_
  exact ⟨.slice none 0 0, rfl, Rep.nilSlice _ _ _, hPY.setRow _ (by omega), ((hU2.trans hUX).trans hUY).setRow _ _ fun h => absurd h (by omega)⟩

set_option maxRecDepth 100000 in set_option maxHeartbeats 4000000 in
theorem rpart_dollar1 (w : World) (b : Nat) (s : ByteArray) (st : RSt) (D : Nat → Prop) (row : RSt → Fo × RSt) (first begun : Bool) (hP : RW w b s st) (hI : RInv s st) (hl : s.size ≤ 1000) (h0 : st.pl < s.size)
    (hc : s[st.pl]'h0 = 36) (he : st.pl + 1 = s.size) :
    Calls Tryd.prog 21 #[.pointer (some ⟨b, 0, none⟩), .bool first, .bool begun] w (ROut b s D w (rPart row s st first begun)) := by
  have hX := rpart_at row h0 first begun
  rw [if_neg (by rw [hc]; decide), if_neg (by rw [hc]; decide), if_neg (by rw [hc]; decide), if_neg (by rw [hc]; rintro ⟨h, -⟩; revert h; decide), if_pos ⟨hc, .inl he⟩] at hX
  rw [hX]
  clear hX
  have h92 : (((s[st.pl]'h0).toNat : Int) == 92) = false := by rw [hc]; rfl
  have h91 : (((s[st.pl]'h0).toNat : Int) == 91) = false := by rw [hc]; rfl
  have h46 : (((s[st.pl]'h0).toNat : Int) == 46) = false := by rw [hc]; rfl
  have h94 : (((s[st.pl]'h0).toNat : Int) == 94) = false := by rw [hc]; rfl
  have h36 : (((s[st.pl]'h0).toNat : Int) == 36) = true := by rw [hc]; rfl
  have h42 : (((s[st.pl]'h0).toNat : Int) == 42) = false := by rw [hc]; rfl
  have he1 : decide ((st.pl : Int) + 1 = (s.size : Int)) = true := decide_eq_true (by omega)
  have he2 : ((st.pl : Int) + 1 == (s.size : Int)) = true := by rw [beq_iff_eq]; omega
  have HC := Lib.hid hc
  clear hc
  have hb := hP.lt
  have hP2 := hP.alloc (.cells (ndA 0 0 noS 0 0 0 (.slice none 0 0)) 60)
  have hU2 : Upd (atB b) w (w.alloc (.cells (ndA 0 0 noS 0 0 0 (.slice none 0 0)) 60)) := (Upd.refl _ _).alloc _
  have hq2 : (w.alloc (.cells (ndA 0 0 noS 0 0 0 (.slice none 0 0)) 60)).heap[w.heap.size]? = some (.cells (ndA 0 0 noS 0 0 0 (.slice none 0 0)) 60 (0, 0)) := hq_eq rfl
  have c0 := hP2.c0
  have c1 := hP2.c1
  have hbb := hP2.lt
  go_enter Tryd.func21, Tryd.ntmps21
  go_upto_region 1 with fail
  generalize w.alloc (.cells (ndA 0 0 noS 0 0 0 (.slice none 0 0)) 60) = W at *
  have hPX := hP2
  have hUX := Upd.refl (atB b) W
  have hqX := hq2
  go_wp2_with fail
  refine (rnode_any _ b s _ _ 1 hPX ⟨hI.pl, hI.many, hI.g⟩ hl (by decide) (by first | exact ndA_size _ _ _ _ _ _ _ | simp) (by first | exact ndA_one _ _ _ _ _ _ _ rfl | (simp; exact ndA_one _ _ _ _ _ _ _ rfl))).mono ?_
  rintro e w2 ⟨rfl, hPY, hUY⟩
  have hZ : w2.heap[w.heap.size]? = some (.cells (ndA 0 0 noS 0 0 0 (.slice none 0 0)) 60 (0, 0)) := (hUY.block _ (lt_of_heap hqX) (by simp only [atB]; omega)).trans hqX
  go_wp2_with ((with_reducible apply stRN); (focus rfl); (focus rfl); (focus ((try simp (disch := (first | (simp only [sz_alloc, sz_set, sz_row, sz_drew, sz_drewN] <;> omega) | omega)) only [hq_eq, hq_ne, hq_set, hq_row, hq_drew, hq_drewN]) <;> (first | rfl | assumption))); (focus (first | assumption | exact ndA_size _ _ _ _ _ _ _)); (focus (first | assumption | exact ndA_size _ _ _ _ _ _ _)); (focus (first | assumption | exact ndA_one _ _ _ _ _ _ _ rfl)))
  refine retRN rfl rfl rfl (setRow_heap _ _ _ _ _ _ hZ) (by first | exact ndA_size _ _ _ _ _ _ _ | simp) ?_
  exact ⟨.slice none 0 0, rfl, Rep.nilSlice _ _ _, hPY.setRow _ (by omega), ((hU2.trans hUX).trans hUY).setRow _ _ fun h => absurd h (by omega)⟩

set_option maxRecDepth 100000 in set_option maxHeartbeats 4000000 in
theorem rpart_dollar2 (w : World) (b : Nat) (s : ByteArray) (st : RSt) (D : Nat → Prop) (row : RSt → Fo × RSt) (first begun : Bool) (hP : RW w b s st) (hI : RInv s st) (hl : s.size ≤ 1000) (h0 : st.pl < s.size)
    (hc : s[st.pl]'h0 = 36) (he : ¬ st.pl + 1 = s.size) (hi : rIs s st [36, 92, 41] = true) :
    Calls Tryd.prog 21 #[.pointer (some ⟨b, 0, none⟩), .bool first, .bool begun] w (ROut b s D w (rPart row s st first begun)) := by
  have hX := rpart_at row h0 first begun
  rw [if_neg (by rw [hc]; decide), if_neg (by rw [hc]; decide), if_neg (by rw [hc]; decide), if_neg (by rw [hc]; rintro ⟨h, -⟩; revert h; decide), if_pos ⟨hc, .inr hi⟩] at hX
  rw [hX]
  clear hX
  have h92 : (((s[st.pl]'h0).toNat : Int) == 92) = false := by rw [hc]; rfl
  have h91 : (((s[st.pl]'h0).toNat : Int) == 91) = false := by rw [hc]; rfl
  have h46 : (((s[st.pl]'h0).toNat : Int) == 46) = false := by rw [hc]; rfl
  have h94 : (((s[st.pl]'h0).toNat : Int) == 94) = false := by rw [hc]; rfl
  have h36 : (((s[st.pl]'h0).toNat : Int) == 36) = true := by rw [hc]; rfl
  have h42 : (((s[st.pl]'h0).toNat : Int) == 42) = false := by rw [hc]; rfl
  have he1 : decide ((st.pl : Int) + 1 = (s.size : Int)) = false := decide_eq_false (by omega)
  have he2 : ((st.pl : Int) + 1 == (s.size : Int)) = false := by rw [beq_eq_false_iff_ne]; omega
  have HC := Lib.hid hc
  clear hc
  have hb := hP.lt
  have hP2 := hP.alloc (.cells (ndA 0 0 noS 0 0 0 (.slice none 0 0)) 60)
  have hU2 : Upd (atB b) w (w.alloc (.cells (ndA 0 0 noS 0 0 0 (.slice none 0 0)) 60)) := (Upd.refl _ _).alloc _
  have hq2 : (w.alloc (.cells (ndA 0 0 noS 0 0 0 (.slice none 0 0)) 60)).heap[w.heap.size]? = some (.cells (ndA 0 0 noS 0 0 0 (.slice none 0 0)) 60 (0, 0)) := hq_eq rfl
  have c0 := hP2.c0
  have c1 := hP2.c1
  have hbb := hP2.lt
  go_enter Tryd.func21, Tryd.ntmps21
  go_upto_region 1 with fail
  generalize w.alloc (.cells (ndA 0 0 noS 0 0 0 (.slice none 0 0)) 60) = W at *
  have is7 : Calls Tryd.prog 20 #[.pointer (some ⟨b, 0, none⟩), .string ⟨#[36, 92, 41]⟩] W fun e w7 => e = .returned (.bool (rIs s st [36, 92, 41])) ∧ w7 = W.drew := ris_any _ b s ⟨#[36, 92, 41]⟩ _ hP2 hI.pl hl (by decide)
  rw [hi] at is7
  have hPX := hP2.drew
  have hUX := (Upd.refl (atB b) W).drew
  have hqX : W.drew.heap[w.heap.size]? = _ := hq2
  go_wp2_with (go_at_call 20; refine is7.mono ?_; rintro e w7 ⟨rfl, rfl⟩)
  refine (rnode_any _ b s _ _ 1 hPX ⟨hI.pl, hI.many, hI.g⟩ hl (by decide) (by first | exact ndA_size _ _ _ _ _ _ _ | simp) (by first | exact ndA_one _ _ _ _ _ _ _ rfl | (simp; exact ndA_one _ _ _ _ _ _ _ rfl))).mono ?_
  rintro e w2 ⟨rfl, hPY, hUY⟩
  have hZ : w2.heap[w.heap.size]? = some (.cells (ndA 0 0 noS 0 0 0 (.slice none 0 0)) 60 (0, 0)) := (hUY.block _ (lt_of_heap hqX) (by simp only [atB]; omega)).trans hqX
  go_wp2_with ((with_reducible apply stRN); (focus rfl); (focus rfl); (focus ((try simp (disch := (first | (simp only [sz_alloc, sz_set, sz_row, sz_drew, sz_drewN] <;> omega) | omega)) only [hq_eq, hq_ne, hq_set, hq_row, hq_drew, hq_drewN]) <;> (first | rfl | assumption))); (focus (first | assumption | exact ndA_size _ _ _ _ _ _ _)); (focus (first | assumption | exact ndA_size _ _ _ _ _ _ _)); (focus (first | assumption | exact ndA_one _ _ _ _ _ _ _ rfl)))
  refine retRN rfl rfl rfl (setRow_heap _ _ _ _ _ _ hZ) (by first | exact ndA_size _ _ _ _ _ _ _ | simp) ?_
  exact ⟨.slice none 0 0, rfl, Rep.nilSlice _ _ _, hPY.setRow _ (by omega), ((hU2.trans hUX).trans hUY).setRow _ _ fun h => absurd h (by omega)⟩

set_option maxRecDepth 100000 in set_option maxHeartbeats 4000000 in
theorem rpart_dollar3 (w : World) (b : Nat) (s : ByteArray) (st : RSt) (D : Nat → Prop) (row : RSt → Fo × RSt) (first begun : Bool) (hP : RW w b s st) (hI : RInv s st) (hl : s.size ≤ 1000) (h0 : st.pl < s.size)
    (hc : s[st.pl]'h0 = 36) (he : ¬ st.pl + 1 = s.size) (hi : rIs s st [36, 92, 41] = false) :
    Calls Tryd.prog 21 #[.pointer (some ⟨b, 0, none⟩), .bool first, .bool begun] w (ROut b s D w (rPart row s st first begun)) := by
  have hX := rpart_at row h0 first begun
  rw [if_neg (by rw [hc]; decide), if_neg (by rw [hc]; decide), if_neg (by rw [hc]; decide), if_neg (by rw [hc]; rintro ⟨h, -⟩; revert h; decide), if_neg (by rintro ⟨-, h | h⟩; exact he h; rw [hi] at h; cases h)] at hX
  have hb0 : (st.bad || (decide (s[st.pl]'h0 = 42) && !first && !begun)) = st.bad := by rw [hc]; simp
  rw [hb0] at hX
  rw [hX]
  clear hX
  have h92 : (((s[st.pl]'h0).toNat : Int) == 92) = false := by rw [hc]; rfl
  have h91 : (((s[st.pl]'h0).toNat : Int) == 91) = false := by rw [hc]; rfl
  have h46 : (((s[st.pl]'h0).toNat : Int) == 46) = false := by rw [hc]; rfl
  have h94 : (((s[st.pl]'h0).toNat : Int) == 94) = false := by rw [hc]; rfl
  have h36 : (((s[st.pl]'h0).toNat : Int) == 36) = true := by rw [hc]; rfl
  have h42 : (((s[st.pl]'h0).toNat : Int) == 42) = false := by rw [hc]; rfl
  have he1 : decide ((st.pl : Int) + 1 = (s.size : Int)) = false := decide_eq_false (by omega)
  have he2 : ((st.pl : Int) + 1 == (s.size : Int)) = false := by rw [beq_eq_false_iff_ne]; omega
  have HC := Lib.hid hc
  clear hc
  have hb := hP.lt
  have hP2 := hP.alloc (.cells (ndA 0 0 noS 0 0 0 (.slice none 0 0)) 60)
  have hU2 : Upd (atB b) w (w.alloc (.cells (ndA 0 0 noS 0 0 0 (.slice none 0 0)) 60)) := (Upd.refl _ _).alloc _
  have hq2 : (w.alloc (.cells (ndA 0 0 noS 0 0 0 (.slice none 0 0)) 60)).heap[w.heap.size]? = some (.cells (ndA 0 0 noS 0 0 0 (.slice none 0 0)) 60 (0, 0)) := hq_eq rfl
  have c0 := hP2.c0
  have c1 := hP2.c1
  have hbb := hP2.lt
  go_enter Tryd.func21, Tryd.ntmps21
  go_upto_region 1 with fail
  generalize w.alloc (.cells (ndA 0 0 noS 0 0 0 (.slice none 0 0)) 60) = W at *
  have is7 : Calls Tryd.prog 20 #[.pointer (some ⟨b, 0, none⟩), .string ⟨#[36, 92, 41]⟩] W fun e w7 => e = .returned (.bool (rIs s st [36, 92, 41])) ∧ w7 = W.drew := ris_any _ b s ⟨#[36, 92, 41]⟩ _ hP2 hI.pl hl (by decide)
  rw [hi] at is7
  have hPX := hP2.drew
  have hUX := (Upd.refl (atB b) W).drew
  have hqX : W.drew.heap[w.heap.size]? = _ := hq2
  go_wp2_with (go_at_call 20; refine is7.mono ?_; rintro e w7 ⟨rfl, rfl⟩)
  refine (rnode_any _ b s _ _ 1 hPX ⟨hI.pl, hI.many, hI.g⟩ hl (by decide) (by first | exact ndA_size _ _ _ _ _ _ _ | simp) (by first | exact ndA_one _ _ _ _ _ _ _ rfl | (simp; exact ndA_one _ _ _ _ _ _ _ rfl))).mono ?_
  rintro e w2 ⟨rfl, hPY, hUY⟩
  have hZ : w2.heap[w.heap.size]? = some (.cells (ndA 0 0 noS 0 0 0 (.slice none 0 0)) 60 (0, 0)) := (hUY.block _ (lt_of_heap hqX) (by simp only [atB]; omega)).trans hqX
  go_wp2_with ((with_reducible apply stRN); (focus rfl); (focus rfl); (focus ((try simp (disch := (first | (simp only [sz_alloc, sz_set, sz_row, sz_drew, sz_drewN] <;> omega) | omega)) only [hq_eq, hq_ne, hq_set, hq_row, hq_drew, hq_drewN]) <;> (first | rfl | assumption))); (focus (first | assumption | exact ndA_size _ _ _ _ _ _ _)); (focus (first | assumption | exact ndA_size _ _ _ _ _ _ _)); (focus (first | assumption | exact ndA_one _ _ _ _ _ _ _ rfl)))
  refine retRN rfl rfl rfl (setRow_heap _ _ _ _ _ _ hZ) (by first | exact ndA_size _ _ _ _ _ _ _ | simp) ?_
  exact ⟨.slice none 0 0, rfl, Rep.nilSlice _ _ _, hPY.setRow _ (by omega), ((hU2.trans hUX).trans hUY).setRow _ _ fun h => absurd h (by omega)⟩

set_option maxRecDepth 100000 in set_option maxHeartbeats 4000000 in
theorem rpart_star_tt (w : World) (b : Nat) (s : ByteArray) (st : RSt) (D : Nat → Prop) (row : RSt → Fo × RSt) (hP : RW w b s st) (hI : RInv s st) (hl : s.size ≤ 1000) (h0 : st.pl < s.size)
    (hc : s[st.pl]'h0 = 42) :
    Calls Tryd.prog 21 #[.pointer (some ⟨b, 0, none⟩), .bool true, .bool true] w (ROut b s D w (rPart row s st true true)) := by
  have hX := rpart_at row h0 true true
  rw [if_neg (by rw [hc]; decide), if_neg (by rw [hc]; decide), if_neg (by rw [hc]; decide), if_neg (by rw [hc]; rintro ⟨h, -⟩; revert h; decide), if_neg (by rw [hc]; rintro ⟨h, -⟩; revert h; decide)] at hX
  have hb0 : (st.bad || (decide (s[st.pl]'h0 = 42) && !true && !true)) = st.bad := by rw [hc]; simp
  rw [hb0] at hX
  rw [hX]
  clear hX
  have h92 : (((s[st.pl]'h0).toNat : Int) == 92) = false := by rw [hc]; rfl
  have h91 : (((s[st.pl]'h0).toNat : Int) == 91) = false := by rw [hc]; rfl
  have h46 : (((s[st.pl]'h0).toNat : Int) == 46) = false := by rw [hc]; rfl
  have h94 : (((s[st.pl]'h0).toNat : Int) == 94) = false := by rw [hc]; rfl
  have h36 : (((s[st.pl]'h0).toNat : Int) == 36) = false := by rw [hc]; rfl
  have h42 : (((s[st.pl]'h0).toNat : Int) == 42) = true := by rw [hc]; rfl
  have HC := Lib.hid hc
  clear hc
  have hb := hP.lt
  have hP2 := hP.alloc (.cells (ndA 0 0 noS 0 0 0 (.slice none 0 0)) 60)
  have hU2 : Upd (atB b) w (w.alloc (.cells (ndA 0 0 noS 0 0 0 (.slice none 0 0)) 60)) := (Upd.refl _ _).alloc _
  have hq2 : (w.alloc (.cells (ndA 0 0 noS 0 0 0 (.slice none 0 0)) 60)).heap[w.heap.size]? = some (.cells (ndA 0 0 noS 0 0 0 (.slice none 0 0)) 60 (0, 0)) := hq_eq rfl
  have c0 := hP2.c0
  have c1 := hP2.c1
  have hbb := hP2.lt
  go_enter Tryd.func21, Tryd.ntmps21
  go_upto_region 1 with fail
  generalize w.alloc (.cells (ndA 0 0 noS 0 0 0 (.slice none 0 0)) 60) = W at *
  have hPX := hP2
  have hUX := Upd.refl (atB b) W
  have hqX := hq2
  go_wp2_with fail
  refine (rnode_any _ b s _ _ 1 hPX ⟨hI.pl, hI.many, hI.g⟩ hl (by decide) (by first | exact ndA_size _ _ _ _ _ _ _ | simp) (by first | exact ndA_one _ _ _ _ _ _ _ rfl | (simp; exact ndA_one _ _ _ _ _ _ _ rfl))).mono ?_
  rintro e w2 ⟨rfl, hPY, hUY⟩
  have hZ : w2.heap[w.heap.size]? = some (.cells (ndA 0 0 noS 0 0 0 (.slice none 0 0)) 60 (0, 0)) := (hUY.block _ (lt_of_heap hqX) (by simp only [atB]; omega)).trans hqX
  go_wp2_with ((with_reducible apply stRN); (focus rfl); (focus rfl); (focus ((try simp (disch := (first | (simp only [sz_alloc, sz_set, sz_row, sz_drew, sz_drewN] <;> omega) | omega)) only [hq_eq, hq_ne, hq_set, hq_row, hq_drew, hq_drewN]) <;> (first | rfl | assumption))); (focus (first | assumption | exact ndA_size _ _ _ _ _ _ _)); (focus (first | assumption | exact ndA_size _ _ _ _ _ _ _)); (focus (first | assumption | exact ndA_one _ _ _ _ _ _ _ rfl)))
  refine retRN rfl rfl rfl (setRow_heap _ _ _ _ _ _ hZ) (by first | exact ndA_size _ _ _ _ _ _ _ | simp) ?_
  exact ⟨.slice none 0 0, rfl, Rep.nilSlice _ _ _, hPY.setRow _ (by omega), ((hU2.trans hUX).trans hUY).setRow _ _ fun h => absurd h (by omega)⟩

set_option maxRecDepth 100000 in set_option maxHeartbeats 4000000 in
theorem rpart_star_tf (w : World) (b : Nat) (s : ByteArray) (st : RSt) (D : Nat → Prop) (row : RSt → Fo × RSt) (hP : RW w b s st) (hI : RInv s st) (hl : s.size ≤ 1000) (h0 : st.pl < s.size)
    (hc : s[st.pl]'h0 = 42) :
    Calls Tryd.prog 21 #[.pointer (some ⟨b, 0, none⟩), .bool true, .bool false] w (ROut b s D w (rPart row s st true false)) := by
  have hX := rpart_at row h0 true false
  rw [if_neg (by rw [hc]; decide), if_neg (by rw [hc]; decide), if_neg (by rw [hc]; decide), if_neg (by rw [hc]; rintro ⟨h, -⟩; revert h; decide), if_neg (by rw [hc]; rintro ⟨h, -⟩; revert h; decide)] at hX
  have hb0 : (st.bad || (decide (s[st.pl]'h0 = 42) && !true && !false)) = st.bad := by rw [hc]; simp
  rw [hb0] at hX
  rw [hX]
  clear hX
  have h92 : (((s[st.pl]'h0).toNat : Int) == 92) = false := by rw [hc]; rfl
  have h91 : (((s[st.pl]'h0).toNat : Int) == 91) = false := by rw [hc]; rfl
  have h46 : (((s[st.pl]'h0).toNat : Int) == 46) = false := by rw [hc]; rfl
  have h94 : (((s[st.pl]'h0).toNat : Int) == 94) = false := by rw [hc]; rfl
  have h36 : (((s[st.pl]'h0).toNat : Int) == 36) = false := by rw [hc]; rfl
  have h42 : (((s[st.pl]'h0).toNat : Int) == 42) = true := by rw [hc]; rfl
  have HC := Lib.hid hc
  clear hc
  have hb := hP.lt
  have hP2 := hP.alloc (.cells (ndA 0 0 noS 0 0 0 (.slice none 0 0)) 60)
  have hU2 : Upd (atB b) w (w.alloc (.cells (ndA 0 0 noS 0 0 0 (.slice none 0 0)) 60)) := (Upd.refl _ _).alloc _
  have hq2 : (w.alloc (.cells (ndA 0 0 noS 0 0 0 (.slice none 0 0)) 60)).heap[w.heap.size]? = some (.cells (ndA 0 0 noS 0 0 0 (.slice none 0 0)) 60 (0, 0)) := hq_eq rfl
  have c0 := hP2.c0
  have c1 := hP2.c1
  have hbb := hP2.lt
  go_enter Tryd.func21, Tryd.ntmps21
  go_upto_region 1 with fail
  generalize w.alloc (.cells (ndA 0 0 noS 0 0 0 (.slice none 0 0)) 60) = W at *
  have hPX := hP2
  have hUX := Upd.refl (atB b) W
  have hqX := hq2
  go_wp2_with fail
  refine (rnode_any _ b s _ _ 1 hPX ⟨hI.pl, hI.many, hI.g⟩ hl (by decide) (by first | exact ndA_size _ _ _ _ _ _ _ | simp) (by first | exact ndA_one _ _ _ _ _ _ _ rfl | (simp; exact ndA_one _ _ _ _ _ _ _ rfl))).mono ?_
  rintro e w2 ⟨rfl, hPY, hUY⟩
  have hZ : w2.heap[w.heap.size]? = some (.cells (ndA 0 0 noS 0 0 0 (.slice none 0 0)) 60 (0, 0)) := (hUY.block _ (lt_of_heap hqX) (by simp only [atB]; omega)).trans hqX
  go_wp2_with ((with_reducible apply stRN); (focus rfl); (focus rfl); (focus ((try simp (disch := (first | (simp only [sz_alloc, sz_set, sz_row, sz_drew, sz_drewN] <;> omega) | omega)) only [hq_eq, hq_ne, hq_set, hq_row, hq_drew, hq_drewN]) <;> (first | rfl | assumption))); (focus (first | assumption | exact ndA_size _ _ _ _ _ _ _)); (focus (first | assumption | exact ndA_size _ _ _ _ _ _ _)); (focus (first | assumption | exact ndA_one _ _ _ _ _ _ _ rfl)))
  refine retRN rfl rfl rfl (setRow_heap _ _ _ _ _ _ hZ) (by first | exact ndA_size _ _ _ _ _ _ _ | simp) ?_
  exact ⟨.slice none 0 0, rfl, Rep.nilSlice _ _ _, hPY.setRow _ (by omega), ((hU2.trans hUX).trans hUY).setRow _ _ fun h => absurd h (by omega)⟩

set_option maxRecDepth 100000 in set_option maxHeartbeats 4000000 in
theorem rpart_star_ft (w : World) (b : Nat) (s : ByteArray) (st : RSt) (D : Nat → Prop) (row : RSt → Fo × RSt) (hP : RW w b s st) (hI : RInv s st) (hl : s.size ≤ 1000) (h0 : st.pl < s.size)
    (hc : s[st.pl]'h0 = 42) :
    Calls Tryd.prog 21 #[.pointer (some ⟨b, 0, none⟩), .bool false, .bool true] w (ROut b s D w (rPart row s st false true)) := by
  have hX := rpart_at row h0 false true
  rw [if_neg (by rw [hc]; decide), if_neg (by rw [hc]; decide), if_neg (by rw [hc]; decide), if_neg (by rw [hc]; rintro ⟨h, -⟩; revert h; decide), if_neg (by rw [hc]; rintro ⟨h, -⟩; revert h; decide)] at hX
  have hb0 : (st.bad || (decide (s[st.pl]'h0 = 42) && !false && !true)) = st.bad := by rw [hc]; simp
  rw [hb0] at hX
  rw [hX]
  clear hX
  have h92 : (((s[st.pl]'h0).toNat : Int) == 92) = false := by rw [hc]; rfl
  have h91 : (((s[st.pl]'h0).toNat : Int) == 91) = false := by rw [hc]; rfl
  have h46 : (((s[st.pl]'h0).toNat : Int) == 46) = false := by rw [hc]; rfl
  have h94 : (((s[st.pl]'h0).toNat : Int) == 94) = false := by rw [hc]; rfl
  have h36 : (((s[st.pl]'h0).toNat : Int) == 36) = false := by rw [hc]; rfl
  have h42 : (((s[st.pl]'h0).toNat : Int) == 42) = true := by rw [hc]; rfl
  have HC := Lib.hid hc
  clear hc
  have hb := hP.lt
  have hP2 := hP.alloc (.cells (ndA 0 0 noS 0 0 0 (.slice none 0 0)) 60)
  have hU2 : Upd (atB b) w (w.alloc (.cells (ndA 0 0 noS 0 0 0 (.slice none 0 0)) 60)) := (Upd.refl _ _).alloc _
  have hq2 : (w.alloc (.cells (ndA 0 0 noS 0 0 0 (.slice none 0 0)) 60)).heap[w.heap.size]? = some (.cells (ndA 0 0 noS 0 0 0 (.slice none 0 0)) 60 (0, 0)) := hq_eq rfl
  have c0 := hP2.c0
  have c1 := hP2.c1
  have hbb := hP2.lt
  go_enter Tryd.func21, Tryd.ntmps21
  go_upto_region 1 with fail
  generalize w.alloc (.cells (ndA 0 0 noS 0 0 0 (.slice none 0 0)) 60) = W at *
  have hPX := hP2
  have hUX := Upd.refl (atB b) W
  have hqX := hq2
  go_wp2_with fail
  refine (rnode_any _ b s _ _ 1 hPX ⟨hI.pl, hI.many, hI.g⟩ hl (by decide) (by first | exact ndA_size _ _ _ _ _ _ _ | simp) (by first | exact ndA_one _ _ _ _ _ _ _ rfl | (simp; exact ndA_one _ _ _ _ _ _ _ rfl))).mono ?_
  rintro e w2 ⟨rfl, hPY, hUY⟩
  have hZ : w2.heap[w.heap.size]? = some (.cells (ndA 0 0 noS 0 0 0 (.slice none 0 0)) 60 (0, 0)) := (hUY.block _ (lt_of_heap hqX) (by simp only [atB]; omega)).trans hqX
  go_wp2_with ((with_reducible apply stRN); (focus rfl); (focus rfl); (focus ((try simp (disch := (first | (simp only [sz_alloc, sz_set, sz_row, sz_drew, sz_drewN] <;> omega) | omega)) only [hq_eq, hq_ne, hq_set, hq_row, hq_drew, hq_drewN]) <;> (first | rfl | assumption))); (focus (first | assumption | exact ndA_size _ _ _ _ _ _ _)); (focus (first | assumption | exact ndA_size _ _ _ _ _ _ _)); (focus (first | assumption | exact ndA_one _ _ _ _ _ _ _ rfl)))
  refine retRN rfl rfl rfl (setRow_heap _ _ _ _ _ _ hZ) (by first | exact ndA_size _ _ _ _ _ _ _ | simp) ?_
  exact ⟨.slice none 0 0, rfl, Rep.nilSlice _ _ _, hPY.setRow _ (by omega), ((hU2.trans hUX).trans hUY).setRow _ _ fun h => absurd h (by omega)⟩

set_option maxRecDepth 100000 in set_option maxHeartbeats 4000000 in
theorem rpart_star_ff (w : World) (b : Nat) (s : ByteArray) (st : RSt) (D : Nat → Prop) (row : RSt → Fo × RSt) (hP : RW w b s st) (hI : RInv s st) (hl : s.size ≤ 1000) (h0 : st.pl < s.size)
    (hc : s[st.pl]'h0 = 42) :
    Calls Tryd.prog 21 #[.pointer (some ⟨b, 0, none⟩), .bool false, .bool false] w (ROut b s D w (rPart row s st false false)) := by
  have hX := rpart_at row h0 false false
  rw [if_neg (by rw [hc]; decide), if_neg (by rw [hc]; decide), if_neg (by rw [hc]; decide), if_neg (by rw [hc]; rintro ⟨h, -⟩; revert h; decide), if_neg (by rw [hc]; rintro ⟨h, -⟩; revert h; decide)] at hX
  have hb0 : (st.bad || (decide (s[st.pl]'h0 = 42) && !false && !false)) = true := by rw [hc]; simp
  rw [hb0] at hX
  rw [hX]
  clear hX
  have h92 : (((s[st.pl]'h0).toNat : Int) == 92) = false := by rw [hc]; rfl
  have h91 : (((s[st.pl]'h0).toNat : Int) == 91) = false := by rw [hc]; rfl
  have h46 : (((s[st.pl]'h0).toNat : Int) == 46) = false := by rw [hc]; rfl
  have h94 : (((s[st.pl]'h0).toNat : Int) == 94) = false := by rw [hc]; rfl
  have h36 : (((s[st.pl]'h0).toNat : Int) == 36) = false := by rw [hc]; rfl
  have h42 : (((s[st.pl]'h0).toNat : Int) == 42) = true := by rw [hc]; rfl
  have HC := Lib.hid hc
  clear hc
  have hb := hP.lt
  have hP2 := hP.alloc (.cells (ndA 0 0 noS 0 0 0 (.slice none 0 0)) 60)
  have hU2 : Upd (atB b) w (w.alloc (.cells (ndA 0 0 noS 0 0 0 (.slice none 0 0)) 60)) := (Upd.refl _ _).alloc _
  have hq2 : (w.alloc (.cells (ndA 0 0 noS 0 0 0 (.slice none 0 0)) 60)).heap[w.heap.size]? = some (.cells (ndA 0 0 noS 0 0 0 (.slice none 0 0)) 60 (0, 0)) := hq_eq rfl
  have c0 := hP2.c0
  have c1 := hP2.c1
  have hbb := hP2.lt
  go_enter Tryd.func21, Tryd.ntmps21
  go_upto_region 1 with fail
  generalize w.alloc (.cells (ndA 0 0 noS 0 0 0 (.slice none 0 0)) 60) = W at *
  have c6 := hP2.c6
  have f6 := hP2.free 1005
  have hPX := hP2.setBad true
  have hUX : Upd (atB b) W (W.setCell ⟨b, 1005, none⟩ (.bool true)) := (Upd.refl _ _).setCell ⟨b, 1005, none⟩ _ fun _ => rfl
  have hqX : (W.setCell ⟨b, 1005, none⟩ (.bool true)).heap[w.heap.size]? = some (.cells (ndA 0 0 noS 0 0 0 (.slice none 0 0)) 60 (0, 0)) := (hq_set (by simp only; omega)).trans hq2
  go_wp2_with fail
  refine (rnode_any _ b s _ _ 1 hPX ⟨hI.pl, hI.many, hI.g⟩ hl (by decide) (by first | exact ndA_size _ _ _ _ _ _ _ | simp) (by first | exact ndA_one _ _ _ _ _ _ _ rfl | (simp; exact ndA_one _ _ _ _ _ _ _ rfl))).mono ?_
  rintro e w2 ⟨rfl, hPY, hUY⟩
  have hZ : w2.heap[w.heap.size]? = some (.cells (ndA 0 0 noS 0 0 0 (.slice none 0 0)) 60 (0, 0)) := (hUY.block _ (lt_of_heap hqX) (by simp only [atB]; omega)).trans hqX
  go_wp2_with ((with_reducible apply stRN); (focus rfl); (focus rfl); (focus ((try simp (disch := (first | (simp only [sz_alloc, sz_set, sz_row, sz_drew, sz_drewN] <;> omega) | omega)) only [hq_eq, hq_ne, hq_set, hq_row, hq_drew, hq_drewN]) <;> (first | rfl | assumption))); (focus (first | assumption | exact ndA_size _ _ _ _ _ _ _)); (focus (first | assumption | exact ndA_size _ _ _ _ _ _ _)); (focus (first | assumption | exact ndA_one _ _ _ _ _ _ _ rfl)))
  refine retRN rfl rfl rfl (setRow_heap _ _ _ _ _ _ hZ) (by first | exact ndA_size _ _ _ _ _ _ _ | simp) ?_
  exact ⟨.slice none 0 0, rfl, Rep.nilSlice _ _ _, hPY.setRow _ (by omega), ((hU2.trans hUX).trans hUY).setRow _ _ fun h => absurd h (by omega)⟩

set_option maxRecDepth 100000 in set_option maxHeartbeats 4000000 in
theorem rpart_other (w : World) (b : Nat) (s : ByteArray) (st : RSt) (D : Nat → Prop) (row : RSt → Fo × RSt) (first begun : Bool) (hP : RW w b s st) (hI : RInv s st) (hl : s.size ≤ 1000) (h0 : st.pl < s.size)
    (n92 : s[st.pl]'h0 ≠ 92) (n91 : s[st.pl]'h0 ≠ 91) (n46 : s[st.pl]'h0 ≠ 46) (n94 : s[st.pl]'h0 ≠ 94) (n36 : s[st.pl]'h0 ≠ 36) (n42 : s[st.pl]'h0 ≠ 42) :
    Calls Tryd.prog 21 #[.pointer (some ⟨b, 0, none⟩), .bool first, .bool begun] w (ROut b s D w (rPart row s st first begun)) := by
  have hX := rpart_at row h0 first begun
  rw [if_neg n92, if_neg n91, if_neg n46, if_neg (fun h => n94 h.1), if_neg (fun h => n36 h.1)] at hX
  have hb0 : (st.bad || (decide (s[st.pl]'h0 = 42) && !first && !begun)) = st.bad := by simp [n42]
  rw [hb0] at hX
  rw [hX]
  clear hX
  have h92 : (((s[st.pl]'h0).toNat : Int) == 92) = false := by rw [beq_eq_false_iff_ne]; exact fun h => n92 (u8_eq (b := 92) h)
  have h91 : (((s[st.pl]'h0).toNat : Int) == 91) = false := by rw [beq_eq_false_iff_ne]; exact fun h => n91 (u8_eq (b := 91) h)
  have h46 : (((s[st.pl]'h0).toNat : Int) == 46) = false := by rw [beq_eq_false_iff_ne]; exact fun h => n46 (u8_eq (b := 46) h)
  have h94 : (((s[st.pl]'h0).toNat : Int) == 94) = false := by rw [beq_eq_false_iff_ne]; exact fun h => n94 (u8_eq (b := 94) h)
  have h36 : (((s[st.pl]'h0).toNat : Int) == 36) = false := by rw [beq_eq_false_iff_ne]; exact fun h => n36 (u8_eq (b := 36) h)
  have h42 : (((s[st.pl]'h0).toNat : Int) == 42) = false := by rw [beq_eq_false_iff_ne]; exact fun h => n42 (u8_eq (b := 42) h)
  clear n92 n91 n46 n94 n36 n42 hb0
  have hb := hP.lt
  have hP2 := hP.alloc (.cells (ndA 0 0 noS 0 0 0 (.slice none 0 0)) 60)
  have hU2 : Upd (atB b) w (w.alloc (.cells (ndA 0 0 noS 0 0 0 (.slice none 0 0)) 60)) := (Upd.refl _ _).alloc _
  have hq2 : (w.alloc (.cells (ndA 0 0 noS 0 0 0 (.slice none 0 0)) 60)).heap[w.heap.size]? = some (.cells (ndA 0 0 noS 0 0 0 (.slice none 0 0)) 60 (0, 0)) := hq_eq rfl
  have c0 := hP2.c0
  have c1 := hP2.c1
  have hbb := hP2.lt
  go_enter Tryd.func21, Tryd.ntmps21
  go_upto_region 1 with fail
  generalize w.alloc (.cells (ndA 0 0 noS 0 0 0 (.slice none 0 0)) 60) = W at *
  have hPX := hP2
  have hUX := Upd.refl (atB b) W
  have hqX := hq2
  go_wp2_with fail
  refine (rnode_any _ b s _ _ 1 hPX ⟨hI.pl, hI.many, hI.g⟩ hl (by decide) (by first | exact ndA_size _ _ _ _ _ _ _ | simp) (by first | exact ndA_one _ _ _ _ _ _ _ rfl | (simp; exact ndA_one _ _ _ _ _ _ _ rfl))).mono ?_
  rintro e w2 ⟨rfl, hPY, hUY⟩
  have hZ : w2.heap[w.heap.size]? = some (.cells (ndA 0 0 noS 0 0 0 (.slice none 0 0)) 60 (0, 0)) := (hUY.block _ (lt_of_heap hqX) (by simp only [atB]; omega)).trans hqX
  go_wp2_with ((with_reducible apply stRN); (focus rfl); (focus rfl); (focus ((try simp (disch := (first | (simp only [sz_alloc, sz_set, sz_row, sz_drew, sz_drewN] <;> omega) | omega)) only [hq_eq, hq_ne, hq_set, hq_row, hq_drew, hq_drewN]) <;> (first | rfl | assumption))); (focus (first | assumption | exact ndA_size _ _ _ _ _ _ _)); (focus (first | assumption | exact ndA_size _ _ _ _ _ _ _)); (focus (first | assumption | exact ndA_one _ _ _ _ _ _ _ rfl)))
  refine retRN rfl rfl rfl (setRow_heap _ _ _ _ _ _ hZ) (by first | exact ndA_size _ _ _ _ _ _ _ | simp) ?_
  exact ⟨.slice none 0 0, rfl, Rep.nilSlice _ _ _, hPY.setRow _ (by omega), ((hU2.trans hUX).trans hUY).setRow _ _ fun h => absurd h (by omega)⟩

end Go.Proofs.YtkbfckigndkkkaaDoor
