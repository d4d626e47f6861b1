/-
  Walk: the document's reader: a group.
-/
import Derived.Test.YtkbfckigndkkkaaDoorRr4
namespace Go.Proofs.YtkbfckigndkkkaaDoor
set_option linter.unusedSimpArgs false
set_option linter.unusedVariables false
open Go Go.RowKit

theorem RW.other {w : World} {b : Nat} {s : ByteArray} {st : RSt} (h : RW w b s st) {p : Addr} (v : Value) (hp : b ≠ p.block) : RW (w.setCell p v) b s st := (Below.heap_setCell w p v b hp).trans h
set_option maxRecDepth 100000 in set_option maxHeartbeats 4000000 in
theorem rslash_group (w : World) (b : Nat) (s : ByteArray) (st : RSt) (D : Nat → Prop) (n : Nat) (hrow : RRowSaid s n) (hP : RW w b s st) (hI : RInv s st) (hl : s.size ≤ 1000) (h1 : st.pl + 1 < s.size) (hg : st.g < 900)
    (hf : s.size - (st.pl + 2) < n) (h40 : (((s[st.pl + 1]'h1).toNat : Int) == 40) = true) :
    Calls Tryd.prog 31 #[.pointer (some ⟨b, 0, none⟩)] w (ROut b s D w (rSlash (fun x => rRow s n x .nil false) s st)) := by
  have hX := rslash_at (fun x => rRow s n x .nil false) h1
  rw [if_pos (u8_eq (b := 40) (beq_iff_eq.1 h40))] at hX
  rw [hX]
  clear hX
  have hb := hP.lt
  have hP1 := (hP.alloc (.cells (ndA 0 0 noS 0 0 0 (.slice none 0 0)) 60)).drew
  have hP2 := hP1.drew
  have hU2 : Upd (atB b) w (((w.alloc (.cells (ndA 0 0 noS 0 0 0 (.slice none 0 0)) 60)).drew).drew) := ((Upd.refl _ _).alloc _).drew.drew
  have hq2 : (((w.alloc (.cells (ndA 0 0 noS 0 0 0 (.slice none 0 0)) 60)).drew).drew).heap[w.heap.size]? = some (.cells (ndA 0 0 noS 0 0 0 (.slice none 0 0)) 60 (0, 0)) := hq_eq rfl
  have c0 := hP1.c0
  have c1 := hP1.c1
  have d0 := hP2.c0
  have d1 := hP2.c1
  have he : decide ((st.pl : Int) + 1 = (s.size : Int)) = false := decide_eq_false (by omega)
  have he2 : ((st.pl : Int) + 1 == (s.size : Int)) = false := by rw [beq_eq_false_iff_ne]; omega
  have hix : (st.pl : Int) + 1 < (s.size : Int) := by omega
  have hix0 : (0 : Int) ≤ (st.pl : Int) + 1 := by omega
  have hixn : ((st.pl : Int) + 1).toNat = st.pl + 1 := by omega
  go_enter Tryd.func31, Tryd.ntmps31
  go_wp2_with fail
  go_region
  go_wp2_with fail
  go_region
  generalize ((w.alloc (.cells (ndA 0 0 noS 0 0 0 (.slice none 0 0)) 60)).drew).drew = W at *
  clear c0 c1 d0 d1 hP1 he he2
  have e2 := hP2.c2
  have g2 := hP2.free 2
  have hbb := hP2.lt
  have hPg := hP2.setG (p := (st.g : Int) + 1) (st.g + 1) (by simp)
  have hUg : Upd (atB b) W (W.setCell ⟨b, 2, none⟩ (.int .i64 ((st.g : Int) + 1))) := (Upd.refl _ _).setCell ⟨b, 2, none⟩ _ fun _ => rfl
  have hIg : RInv s { st with g := st.g + 1 } := ⟨hI.pl, hI.many, by simp only; omega⟩
  have hqg : (W.setCell ⟨b, 2, none⟩ (.int .i64 ((st.g : Int) + 1))).heap[w.heap.size]? = some (.cells (ndA 0 0 noS 0 0 0 (.slice none 0 0)) 60 (0, 0)) := (hq_set (by simp only; omega)).trans hq2
  have c2' : (W.setCell ⟨b, 2, none⟩ (.int .i64 ((st.g : Int) + 1))).cell? ⟨b, 2, none⟩ = some (.int .i64 ((st.g : Int) + 1)) := hPg.c2
  have hGB := Lib.hid hIg
  go_wp2_with fail
  refine (rnode_any _ b s _ _ 2 hPg hIg hl (by decide) (ndA_size _ _ _ _ _ _ _) (ndA_one _ _ _ _ _ _ _ rfl)).mono ?_
  rintro e w2 ⟨rfl, hPn, hUn⟩
  have hIn := (rNode_le (n := 2) hIg (by decide) (show st.pl + 2 ≤ s.size by omega)).inv hIg
  have hqn : w2.heap[w.heap.size]? = some (.cells (ndA 0 0 noS 0 0 0 (.slice none 0 0)) 60 (0, 0)) := (hUn.block _ (lt_of_heap hqg) (by simp only [atB]; omega)).trans hqg
  have hU4 := (hU2.trans hUg).trans hUn
  have hlt2 := lt_of_heap hqn
  clear e2 g2 hbb hPg hUg hqg c2' hUn hq2 hP2 hU2
  go_wp2_with ((with_reducible apply stRN); (focus rfl); (focus rfl); (focus ((try simp (disch := (first | (simp only [sz_alloc, sz_set, sz_row, sz_drew, sz_drewN] <;> omega) | omega)) only [hq_eq, hq_ne, hq_set, hq_row, hq_drew, hq_drewN]) <;> (first | rfl | assumption))); (focus (first | assumption | exact ndA_size _ _ _ _ _ _ _)); (focus (first | assumption | exact ndA_size _ _ _ _ _ _ _)); (focus (first | assumption | exact ndA_one _ _ _ _ _ _ _ rfl)))
  have hG4 : ((w2.alloc (.cells (ndA 0 0 noS 0 0 0 (.slice none 0 0)) 60)).setRow w2.heap.size (ndA 7 0 noS ((st.g : Int) + 1) 0 0 (.slice none 0 0))).heap[w2.heap.size]? = some (.cells (ndA 7 0 noS ((st.g : Int) + 1) 0 0 (.slice none 0 0)) 60 (0, 0)) := setRow_heap _ _ _ _ _ _ (hq_eq rfl : _ = some (Obj.cells (ndA 0 0 noS 0 0 0 (.slice none 0 0)) 60 (0, 0)))
  have hq4 : ((w2.alloc (.cells (ndA 0 0 noS 0 0 0 (.slice none 0 0)) 60)).setRow w2.heap.size (ndA 7 0 noS ((st.g : Int) + 1) 0 0 (.slice none 0 0))).heap[w.heap.size]? = some (.cells (ndA 0 0 noS 0 0 0 (.slice none 0 0)) 60 (0, 0)) := (hq_row (by omega)).trans ((heap_alloc_lt hlt2).trans hqn)
  have hbl := hPn.lt
  have hP4 := (hPn.alloc (.cells (ndA 0 0 noS 0 0 0 (.slice none 0 0)) 60)).setRow (k := w2.heap.size) (ndA 7 0 noS ((st.g : Int) + 1) 0 0 (.slice none 0 0)) (by omega)
  have hU4' : Upd (atB b) w ((w2.alloc (.cells (ndA 0 0 noS 0 0 0 (.slice none 0 0)) 60)).setRow w2.heap.size (ndA 7 0 noS ((st.g : Int) + 1) 0 0 (.slice none 0 0))) := (hU4.alloc _).setRow _ _ fun h => absurd h (by have := hU4.size; omega)
  have hsz4 : ((w2.alloc (.cells (ndA 0 0 noS 0 0 0 (.slice none 0 0)) 60)).setRow w2.heap.size (ndA 7 0 noS ((st.g : Int) + 1) 0 0 (.slice none 0 0))).heap.size = w2.heap.size + 1 := by rw [sz_row, sz_alloc]
  have HSZ := Lib.hid hU4.size
  clear hU4 hqn hPn
  generalize (w2.alloc (.cells (ndA 0 0 noS 0 0 0 (.slice none 0 0)) 60)).setRow w2.heap.size (ndA 7 0 noS ((st.g : Int) + 1) 0 0 (.slice none 0 0)) = w4 at *
  have HS4 := Lib.hid hsz4
  clear hsz4
  refine (hrow w4 b _ hP4 hIn (by simp only [rNode]; omega)).mono ?_
  rintro e w5 ⟨v, rfl, hRep5, hP5, hU5⟩
  have hI5 := (rRow_le s n _ .nil false hIn).inv hIn
  have hG5 : w5.heap[w2.heap.size]? = _ := (hU5.block _ (lt_of_heap hG4) (by simp only [atB]; omega)).trans hG4
  have hq5 : w5.heap[w.heap.size]? = _ := (hU5.block _ (lt_of_heap hq4) (by simp only [atB]; omega)).trans hq4
  have hUU := hU4'.trans hU5
  have hgr : rGroup (fun x => rRow s n x .nil false) s st = rGroup (fun x => rRow s n x .nil false) s st := rfl
  conv at hgr => rhs; unfold rGroup
  simp only at hgr
  obtain ⟨Y, hY⟩ : ∃ Y, rRow s n (rNode { st with g := st.g + 1 } 2) .nil false = Y := ⟨_, rfl⟩
  rw [hY] at hgr hI5 hRep5 hP5
  have HGR := Lib.hid hgr
  clear hgr hY
  have hv1 := hRep5.one
  have k1 : w5.cell? ⟨w2.heap.size, 261, none⟩ = some (.slice none 0 0) := by rw [cell_of_heap hG5]; exact ndA_get261 _ _ _ _ _ _ _
  have k2 := free_of_heap hG5 261
  have k3 := lt_of_heap hG5
  have hS6 : (w5.setCell ⟨w2.heap.size, 261, none⟩ v).heap[w2.heap.size]? = some (.cells (ndA 7 0 noS ((st.g : Int) + 1) 0 0 v) 60 (0, 0)) := by rw [heap_setCell_at hG5, ndA_set261]
  have hq6 : (w5.setCell ⟨w2.heap.size, 261, none⟩ v).heap[w.heap.size]? = some (.cells (ndA 0 0 noS 0 0 0 (.slice none 0 0)) 60 (0, 0)) := (hq_set (by simp only; omega)).trans hq5
  have hP6 : RW (w5.setCell ⟨w2.heap.size, 261, none⟩ v) b s Y.2 := hP5.other v (by simp only; omega)
  have hU6 : Upd (atB b) w (w5.setCell ⟨w2.heap.size, 261, none⟩ v) := hUU.setCell _ _ fun h => absurd h (by have := HSZ.out; simp only; omega)
  have hR6 : Rep (fun j => w4.heap.size ≤ j) 60 (w5.setCell ⟨w2.heap.size, 261, none⟩ v) v Y.1 := hRep5.keep (Keep.setCell _ _ fun j hj _ => by have := HS4.out; simp only; omega)
  obtain ⟨va, vc, rfl⟩ := Rep.slice hRep5
  clear hG5 hq5 hP5 hUU hRep5 hG4 hq4 hP4 hU4' hU5
  have is6 : Calls Tryd.prog 20 #[.pointer (some ⟨b, 0, none⟩), .string ⟨#[92, 41]⟩] (w5.setCell ⟨w2.heap.size, 261, none⟩ (.slice va Y.1.tops.length vc)) fun e w7 => e = .returned (.bool (rIs s Y.2 [92, 41])) ∧ RW w7 b s Y.2 ∧
      w7.heap[w.heap.size]? = some (.cells (ndA 0 0 noS 0 0 0 (.slice none 0 0)) 60 (0, 0)) ∧ w7.heap[w2.heap.size]? = some (.cells (ndA 7 0 noS ((st.g : Int) + 1) 0 0 (.slice va Y.1.tops.length vc)) 60 (0, 0)) ∧
      Upd (atB b) w w7 ∧ Rep (fun j => w4.heap.size ≤ j) 60 w7 (.slice va Y.1.tops.length vc) Y.1 := by
    refine (ris_any _ b s ⟨#[92, 41]⟩ _ hP6 hI5.pl hl (by decide)).mono ?_
    rintro e w7 ⟨rfl, rfl⟩
    exact ⟨rfl, hP6.drew, hq6, hS6, hU6.drew, hR6.drew⟩
  clear hq6 hS6 hU6 hR6 hP6
  have hone : (ndA 7 0 noS ((st.g : Int) + 1) 0 0 (.slice va Y.1.tops.length vc)).all (·.oneCell') = true := ndA_one _ _ _ _ _ _ _ rfl
  cases hi : rIs s Y.2 [92, 41] with
  | false =>
    rw [hi] at is6
    have hgr := HGR.out
    rw [if_neg (by rintro ⟨h, -⟩; rw [hi] at h; cases h)] at hgr
    have HG2 := Lib.hid hgr
    clear hgr
    go_wp2_with (first | (go_at_call 20; refine is6.mono ?_; rintro e w7 ⟨rfl, hP7, hq7, hS7, hU7, hR7⟩; have hbb := hP7.lt; have c6 := hP7.c6; have f6 := hP7.free 1005) | ((with_reducible apply ldRN); (focus rfl); (focus ((try simp (disch := (first | (simp only [sz_alloc, sz_set, sz_row, sz_drew, sz_drewN] <;> omega) | omega)) only [hq_eq, hq_ne, hq_set, hq_row, hq_drew, hq_drewN]) <;> (first | rfl | assumption))); (focus (first | assumption | exact ndA_size _ _ _ _ _ _ _))) | ((with_reducible apply stRN); (focus rfl); (focus rfl); (focus ((try simp (disch := (first | (simp only [sz_alloc, sz_set, sz_row, sz_drew, sz_drewN] <;> omega) | omega)) only [hq_eq, hq_ne, hq_set, hq_row, hq_drew, hq_drewN]) <;> (first | rfl | assumption))); (focus (first | assumption | exact ndA_size _ _ _ _ _ _ _)); (focus (first | assumption | exact ndA_size _ _ _ _ _ _ _)); (focus (first | assumption | exact ndA_one _ _ _ _ _ _ _ rfl))))
    have hq8 := (hq_set (w := w7) (p := ⟨b, 1005, none⟩) (v := .bool true) (by simp only; omega)).trans hq7
    refine retRN rfl rfl rfl (setRow_heap _ _ _ _ _ _ hq8) (ndA_size _ _ _ _ _ _ _) ?_
    rw [HG2.out]
    exact ⟨.slice none 0 0, rfl, Rep.nilSlice _ _ _, (hP7.setBad true).setRow _ (by omega), (hU7.setCell ⟨b, 1005, none⟩ _ fun _ => rfl).setRow _ _ fun h => absurd h (by omega)⟩
  | true =>
    rw [hi] at is6
    by_cases h9 : st.g + 1 ≤ 9
    · have hd9 : decide ((9 : Int) < (st.g : Int) + 1) = false := decide_eq_false (by omega)
      have hl2 := rIs_len hi (by decide)
      simp only [List.length_cons, List.length_nil, Nat.zero_add, Nat.reduceAdd] at hl2
      have hgr := HGR.out
      rw [if_pos ⟨hi, h9⟩] at hgr
      have HG2 := Lib.hid hgr
      clear hgr
      have hi1000 : st.g + 1 < 1000 := by omega
      go_wp2_with (first | (go_at_call 20; refine is6.mono ?_; rintro e w7 ⟨rfl, hP7, hq7, hS7, hU7, hR7⟩; have hbb := hP7.lt; have c1 := hP7.c1; have f1 := hP7.free 1; have hP8 := hP7.setPl (p := (Y.2.pl : Int) + 2) (Y.2.pl + 2) (by simp); have ce := hP8.ce hi1000; have fe := hP8.free (4 + (st.g + 1)); have hbb8 := hP8.lt) | ((with_reducible apply ldRN); (focus rfl); (focus ((try simp (disch := (first | (simp only [sz_alloc, sz_set, sz_row, sz_drew, sz_drewN] <;> omega) | omega)) only [hq_eq, hq_ne, hq_set, hq_row, hq_drew, hq_drewN]) <;> (first | rfl | assumption))); (focus (first | assumption | exact ndA_size _ _ _ _ _ _ _))) | ((with_reducible apply stRN); (focus rfl); (focus rfl); (focus ((try simp (disch := (first | (simp only [sz_alloc, sz_set, sz_row, sz_drew, sz_drewN] <;> omega) | omega)) only [hq_eq, hq_ne, hq_set, hq_row, hq_drew, hq_drewN]) <;> (first | rfl | assumption))); (focus (first | assumption | exact ndA_size _ _ _ _ _ _ _)); (focus (first | assumption | exact ndA_size _ _ _ _ _ _ _)); (focus (first | assumption | exact ndA_one _ _ _ _ _ _ _ rfl))))
      have hq9 := (hq_set (w := w7.setCell ⟨b, 1, none⟩ (.int .i64 ((Y.2.pl : Int) + 2))) (p := ⟨b, 4 + (st.g + 1), none⟩) (v := .bool true) (k := w.heap.size) (by simp only; omega)).trans ((hq_set (by simp only; omega)).trans hq7)
      have hR9 := ((hR7.keep (Keep.setCell ⟨b, 1, none⟩ (.int .i64 ((Y.2.pl : Int) + 2)) fun j hj _ => by have := HS4.out; simp only; omega)).keep (Keep.setCell ⟨b, 4 + (st.g + 1), none⟩ (.bool true) fun j hj _ => by have := HS4.out; simp only; omega)).keep (Keep.setRow w.heap.size (ndA 7 0 noS ((st.g : Int) + 1) 0 0 (.slice va Y.1.tops.length vc)) fun j hj _ => by have := HS4.out; omega)
      refine retRN rfl rfl rfl (setRow_heap _ _ _ _ _ _ hq9) (ndA_size _ _ _ _ _ _ _) ?_
      rw [HG2.out]
      exact ⟨_, rfl, hR9.mono fun j hj _ => .inr (by have := HS4.out; omega), (hP8.setEnd hi1000).setRow _ (by omega), ((hU7.setCell ⟨b, 1, none⟩ _ fun _ => rfl).setCell ⟨b, 4 + (st.g + 1), none⟩ _ fun _ => rfl).setRow _ _ fun h => absurd h (by omega)⟩
    · have hd9 : decide ((9 : Int) < (st.g : Int) + 1) = true := decide_eq_true (by omega)
      have hgr := HGR.out
      rw [if_neg (by rintro ⟨-, h⟩; exact h9 h)] at hgr
      have HG2 := Lib.hid hgr
      clear hgr
      go_wp2_with (first | (go_at_call 20; refine is6.mono ?_; rintro e w7 ⟨rfl, hP7, hq7, hS7, hU7, hR7⟩; have hbb := hP7.lt; have c6 := hP7.c6; have f6 := hP7.free 1005) | ((with_reducible apply ldRN); (focus rfl); (focus ((try simp (disch := (first | (simp only [sz_alloc, sz_set, sz_row, sz_drew, sz_drewN] <;> omega) | omega)) only [hq_eq, hq_ne, hq_set, hq_row, hq_drew, hq_drewN]) <;> (first | rfl | assumption))); (focus (first | assumption | exact ndA_size _ _ _ _ _ _ _))) | ((with_reducible apply stRN); (focus rfl); (focus rfl); (focus ((try simp (disch := (first | (simp only [sz_alloc, sz_set, sz_row, sz_drew, sz_drewN] <;> omega) | omega)) only [hq_eq, hq_ne, hq_set, hq_row, hq_drew, hq_drewN]) <;> (first | rfl | assumption))); (focus (first | assumption | exact ndA_size _ _ _ _ _ _ _)); (focus (first | assumption | exact ndA_size _ _ _ _ _ _ _)); (focus (first | assumption | exact ndA_one _ _ _ _ _ _ _ rfl))))
      have hq8 := (hq_set (w := w7) (p := ⟨b, 1005, none⟩) (v := .bool true) (by simp only; omega)).trans hq7
      refine retRN rfl rfl rfl (setRow_heap _ _ _ _ _ _ hq8) (ndA_size _ _ _ _ _ _ _) ?_
      rw [HG2.out]
      exact ⟨.slice none 0 0, rfl, Rep.nilSlice _ _ _, (hP7.setBad true).setRow _ (by omega), (hU7.setCell ⟨b, 1005, none⟩ _ fun _ => rfl).setRow _ _ fun h => absurd h (by omega)⟩
theorem rslash_any (w : World) (b : Nat) (s : ByteArray) (st : RSt) (D : Nat → Prop) (n : Nat) (hrow : RRowSaid s n) (hP : RW w b s st) (hI : RInv s st) (hl : s.size ≤ 1000) (h0 : st.pl < s.size) (hg : st.g < 900) (hf : s.size - (st.pl + 2) < n) :
    Calls Tryd.prog 31 #[.pointer (some ⟨b, 0, none⟩)] w (ROut b s D w (rSlash (fun x => rRow s n x .nil false) s st)) := by
  by_cases h1 : st.pl + 1 < s.size
  · cases h40 : (((s[st.pl + 1]'h1).toNat : Int) == 40) with
    | true => exact rslash_group w b s st D n hrow hP hI hl h1 hg hf h40
    | false =>
      by_cases hd : 49 ≤ (s[st.pl + 1]'h1).toNat ∧ (s[st.pl + 1]'h1).toNat ≤ 57
      · exact rslash_ref w b s st D _ hP hI hl h1 hd.1 hd.2
      · exact rslash_byte w b s st D _ hP hI hl h1 h40 hd
  · exact rslash_end w b s st D _ hP hI hl (by omega)
end Go.Proofs.YtkbfckigndkkkaaDoor

/-
  Walks: the document's reader: a part, but sets.
-/
namespace Go.Proofs.YtkbfckigndkkkaaDoor
open Go Go.RowKit

theorem rpart_at (row : RSt → Fo × RSt) {s : ByteArray} {st : RSt} (h : st.pl < s.size) (first begun : Bool) : rPart row s st first begun =
    if s[st.pl]'h = 92 then rSlash row s st
    else if s[st.pl]'h = 91 then
      match clsParse (s.data.toList.drop st.pl) with
      | none => ((hd0, .nil), { st with bad := true })
      | some (f, rest) => ((⟨3, 0, f, 0, 0, 0⟩, .nil), rNode st (s.size - rest.length - st.pl))
    else if s[st.pl]'h = 46 then ((⟨2, 0, noS, 0, 0, 0⟩, .nil), rNode st 1)
    else if s[st.pl]'h = 94 ∧ first = true then ((⟨4, 0, noS, 0, 0, 0⟩, .nil), rNode st 1)
    else if s[st.pl]'h = 36 ∧ (st.pl + 1 = s.size ∨ rIs s st [36, 92, 41] = true) then ((⟨5, 0, noS, 0, 0, 0⟩, .nil), rNode st 1)
    else ((⟨1, s[st.pl]'h, noS, 0, 0, 0⟩, .nil), rNode { st with bad := st.bad || (decide (s[st.pl]'h = 42) && !first && !begun) } 1) := by
  have h2 : s.data.toList.drop st.pl = s[st.pl]'h :: s.data.toList.drop (st.pl + 1) := by
    have hl := bytes_len s
    rw [List.drop_eq_getElem_cons (i := st.pl) (by omega)]; rfl
  conv => lhs; unfold rPart
  split
  · rename_i heq; rw [h2] at heq; cases heq
  · rename_i c t heq
    rw [h2] at heq
    cases heq
    rfl
set_option maxRecDepth 100000 in set_option maxHeartbeats 4000000 in
theorem rpart_slash (w : World) (b : Nat) (s : ByteArray) (st : RSt) (D : Nat → Prop) (n : Nat) (first begun : Bool) (hrow : RRowSaid s n) (hP : RW w b s st) (hI : RInv s st) (hl : s.size ≤ 1000) (h0 : st.pl < s.size) (hg : st.g < 900) (hf : s.size - (st.pl + 2) < n)
    (h92 : (((s[st.pl]'h0).toNat : Int) == 92) = true) :
    Calls Tryd.prog 21 #[.pointer (some ⟨b, 0, none⟩), .bool first, .bool begun] w (ROut b s D w (rPart (fun x => rRow s n x .nil false) s st first begun)) := by
  have hX := rpart_at (fun x => rRow s n x .nil false) h0 first begun
  rw [if_pos (u8_eq (b := 92) (beq_iff_eq.1 h92))] at hX
  rw [hX]
  clear hX
  have hb := hP.lt
  have hP2 := hP.alloc (.cells (ndA 0 0 noS 0 0 0 (.slice none 0 0)) 60)
  have hU2 : Upd (atB b) w (w.alloc (.cells (ndA 0 0 noS 0 0 0 (.slice none 0 0)) 60)) := (Upd.refl _ _).alloc _
  have hq2 : (w.alloc (.cells (ndA 0 0 noS 0 0 0 (.slice none 0 0)) 60)).heap[w.heap.size]? = some (.cells (ndA 0 0 noS 0 0 0 (.slice none 0 0)) 60 (0, 0)) := hq_eq rfl
  have c0 := hP2.c0
  have c1 := hP2.c1
  have hbb := hP2.lt
  go_enter Tryd.func21, Tryd.ntmps21
  go_upto_region 1 with fail
  generalize w.alloc (.cells (ndA 0 0 noS 0 0 0 (.slice none 0 0)) 60) = W at *
  have hsz2 := Lib.hid (lt_of_heap hq2)
  go_wp2_with fail
  refine (rslash_any _ b s st (fun _ => False) n hrow hP2 hI hl h0 hg hf).mono ?_
  rintro e w2 ⟨kv, rfl, hR, hPY, hUY⟩
  have hZ : w2.heap[w.heap.size]? = some (.cells (ndA 0 0 noS 0 0 0 (.slice none 0 0)) 60 (0, 0)) := (hUY.block _ (lt_of_heap hq2) (by simp only [atB]; omega)).trans hq2
  have hN1 := ndA_one (rSlash (fun x => rRow s n x .nil false) s st).1.1.kind (rSlash (fun x => rRow s n x .nil false) s st).1.1.byte (rSlash (fun x => rRow s n x .nil false) s st).1.1.set (rSlash (fun x => rRow s n x .nil false) s st).1.1.n (rSlash (fun x => rRow s n x .nil false) s st).1.1.mn (rSlash (fun x => rRow s n x .nil false) s st).1.1.mx kv hR.one
  unfold ndH
  go_wp2_with ((with_reducible apply stRN); (focus rfl); (focus rfl); (focus ((try simp (disch := (first | (simp only [sz_alloc, sz_set, sz_row, sz_drew, sz_drewN] <;> omega) | omega)) only [hq_eq, hq_ne, hq_set, hq_row, hq_drew, hq_drewN]) <;> (first | rfl | assumption))); (focus (first | assumption | exact ndA_size _ _ _ _ _ _ _)); (focus (first | assumption | exact ndA_size _ _ _ _ _ _ _)); (focus (first | assumption | exact ndA_one _ _ _ _ _ _ _ rfl)))
  refine retRN rfl rfl rfl (setRow_heap _ _ _ _ _ _ hZ) (ndA_size _ _ _ _ _ _ _) ?_
  exact ⟨kv, rfl, (hR.keep (Keep.setRow _ _ fun j hj _ => by have := hsz2.out; rcases hj with hj | hj; exact absurd hj id; omega)).mono (fun j hj _ => .inr (by have := hsz2.out; rcases hj with hj | hj; exact absurd hj id; omega)), hPY.setRow _ (by omega), (hU2.trans hUY).setRow _ _ fun h => absurd h (by omega)⟩
set_option maxRecDepth 100000 in set_option maxHeartbeats 4000000 in
theorem rnpart_dot (w : World) (b : Nat) (s : ByteArray) (st : RSt) (D : Nat → Prop) (row : RSt → Fo × RSt) (first begun : Bool) (hP : RW w b s st) (hI : RInv s st) (hl : s.size ≤ 1000) (h0 : st.pl < s.size)
    (h46 : (((s[st.pl]'h0).toNat : Int) == 46) = true) :
    Calls Tryd.prog 21 #[.pointer (some ⟨b, 0, none⟩), .bool first, .bool begun] w (ROut b s D w (rPart row s st first begun)) := by
  have hX := rpart_at row h0 first begun
  have hc := u8_eq (b := 46) (beq_iff_eq.1 h46)
  rw [if_neg (by rw [hc]; decide), if_neg (by rw [hc]; decide), if_pos hc] at hX
  rw [hX]
  clear hX
  have h92 : (((s[st.pl]'h0).toNat : Int) == 92) = false := by rw [hc]; rfl
  have h91 : (((s[st.pl]'h0).toNat : Int) == 91) = false := by rw [hc]; rfl
  have HC := Lib.hid hc
  clear hc
  have hb := hP.lt
  have hP2 := hP.alloc (.cells (ndA 0 0 noS 0 0 0 (.slice none 0 0)) 60)
  have hU2 : Upd (atB b) w (w.alloc (.cells (ndA 0 0 noS 0 0 0 (.slice none 0 0)) 60)) := (Upd.refl _ _).alloc _
  have hq2 : (w.alloc (.cells (ndA 0 0 noS 0 0 0 (.slice none 0 0)) 60)).heap[w.heap.size]? = some (.cells (ndA 0 0 noS 0 0 0 (.slice none 0 0)) 60 (0, 0)) := hq_eq rfl
  have c0 := hP2.c0
  have c1 := hP2.c1
  have hbb := hP2.lt
  go_enter Tryd.func21, Tryd.ntmps21
  go_upto_region 1 with fail
  generalize w.alloc (.cells (ndA 0 0 noS 0 0 0 (.slice none 0 0)) 60) = W at *
  have hPX := hP2
  have hUX := Upd.refl (atB b) W
  have hqX := hq2
  go_wp2_with fail
  refine (rnode_any _ b s _ _ 1 hPX ⟨hI.pl, hI.many, hI.g⟩ hl (by decide) (by first | exact ndA_size _ _ _ _ _ _ _ | simp) (by first | exact ndA_one _ _ _ _ _ _ _ rfl | (simp; exact ndA_one _ _ _ _ _ _ _ rfl))).mono ?_
  rintro e w2 ⟨rfl, hPY, hUY⟩
  have hZ : w2.heap[w.heap.size]? = some (.cells (ndA 0 0 noS 0 0 0 (.slice none 0 0)) 60 (0, 0)) := (hUY.block _ (lt_of_heap hqX) (by simp only [atB]; omega)).trans hqX
  go_wp2_with ((with_reducible apply stRN); (focus rfl); (focus rfl); (focus ((try simp (disch := (first | (simp only [sz_alloc, sz_set, sz_row, sz_drew, sz_drewN] <;> omega) | omega)) only [hq_eq, hq_ne, hq_set, hq_row, hq_drew, hq_drewN]) <;> (first | rfl | assumption))); (focus (first | assumption | exact ndA_size _ _ _ _ _ _ _)); (focus (first | assumption | exact ndA_size _ _ _ _ _ _ _)); (focus (first | assumption | exact ndA_one _ _ _ _ _ _ _ rfl)))
  refine retRN rfl rfl rfl (setRow_heap _ _ _ _ _ _ hZ) (by first | exact ndA_size _ _ _ _ _ _ _ | simp) ?_
  exact ⟨.slice none 0 0, rfl, Rep.nilSlice _ _ _, hPY.setRow _ (by omega), ((hU2.trans hUX).trans hUY).setRow _ _ fun h => absurd h (by omega)⟩
end Go.Proofs.YtkbfckigndkkkaaDoor
