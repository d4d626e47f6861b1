/-
  Walks: the document's reader: what stands behind a backslash.
-/
import Derived.Test.YtkbfckigndkkkaaDoorRr3
import Derived.Test.YtkbfckigndkkkaaDoorRs
import Derived.Test.YtkbfckigndkkkaaDoorCls5
namespace Go.Proofs.YtkbfckigndkkkaaDoor
set_option linter.unusedSimpArgs false
set_option linter.unusedVariables false
open Go Go.RowKit

def RRowSaid (s : ByteArray) (n : Nat) : Prop := ∀ (w : World) (b : Nat) (st : RSt), RW w b s st → RInv s st → s.size - st.pl < n →
  Calls Tryd.prog 15 #[.pointer (some ⟨b, 0, none⟩)] w fun e w' => ∃ v, e = .returned v ∧ Rep (fun j => w.heap.size ≤ j) 60 w' v (rRow s n st .nil false).1 ∧ RW w' b s (rRow s n st .nil false).2 ∧ Upd (atB b) w w'
set_option maxRecDepth 100000 in set_option maxHeartbeats 4000000 in
theorem rslash_end (w : World) (b : Nat) (s : ByteArray) (st : RSt) (D : Nat → Prop) (row : RSt → Fo × RSt) (hP : RW w b s st) (hI : RInv s st) (hl : s.size ≤ 1000) (h1 : st.pl + 1 = s.size) :
    Calls Tryd.prog 31 #[.pointer (some ⟨b, 0, none⟩)] w (ROut b s D w (rSlash row s st)) := by
  have hX : rSlash row s st = ((hd0, .nil), { st with bad := true }) := by
    have : s.data.toList.drop (st.pl + 1) = [] := List.drop_of_length_le (by rw [← bytes_len]; omega)
    unfold rSlash
    rw [this]
  rw [hX]
  have hb := hP.lt
  have c0 : ((w.alloc (.cells (ndA 0 0 noS 0 0 0 (.slice none 0 0)) 60)).drew).cell? ⟨b, 0, none⟩ = some (.string s) := (hP.alloc _).drew.c0
  have c1 : ((w.alloc (.cells (ndA 0 0 noS 0 0 0 (.slice none 0 0)) 60)).drew).cell? ⟨b, 1, none⟩ = some (.int .i64 (st.pl : Int)) := (hP.alloc _).drew.c1
  have c6 : ((w.alloc (.cells (ndA 0 0 noS 0 0 0 (.slice none 0 0)) 60)).drew).cell? ⟨b, 1005, none⟩ = some (.bool st.bad) := (hP.alloc _).drew.c6
  have f6 : ((w.alloc (.cells (ndA 0 0 noS 0 0 0 (.slice none 0 0)) 60)).drew).frozen? ⟨b, 1005, none⟩ = false := (hP.alloc _).drew.free 1005
  have hq : ((w.alloc (.cells (ndA 0 0 noS 0 0 0 (.slice none 0 0)) 60)).drew).heap[w.heap.size]? = some (.cells (ndA 0 0 noS 0 0 0 (.slice none 0 0)) 60 (0, 0)) := hq_eq rfl
  have hP1 := (hP.alloc (.cells (ndA 0 0 noS 0 0 0 (.slice none 0 0)) 60)).drew
  have hU1 : Upd (atB b) w ((w.alloc (.cells (ndA 0 0 noS 0 0 0 (.slice none 0 0)) 60)).drew) := ((Upd.refl _ _).alloc _).drew
  have he : decide ((st.pl : Int) + 1 = (s.size : Int)) = true := decide_eq_true (by omega)
  have he2 : ((st.pl : Int) + 1 == (s.size : Int)) = true := by rw [beq_iff_eq]; omega
  go_enter Tryd.func31, Tryd.ntmps31
  go_wp2_with fail
  go_region
  go_wp2_with (first | ((with_reducible apply ldRN); (focus rfl); (focus ((try simp (disch := (first | (simp only [sz_alloc, sz_set, sz_row, sz_drew, sz_drewN] <;> omega) | omega)) only [hq_eq, hq_ne, hq_set, hq_row, hq_drew, hq_drewN]) <;> (first | rfl | assumption))); (focus (first | assumption | exact ndA_size _ _ _ _ _ _ _))) | ((with_reducible apply stRN); (focus rfl); (focus rfl); (focus ((try simp (disch := (first | (simp only [sz_alloc, sz_set, sz_row, sz_drew, sz_drewN] <;> omega) | omega)) only [hq_eq, hq_ne, hq_set, hq_row, hq_drew, hq_drewN]) <;> (first | rfl | assumption))); (focus (first | assumption | exact ndA_size _ _ _ _ _ _ _)); (focus (first | assumption | exact ndA_size _ _ _ _ _ _ _)); (focus (first | assumption | exact ndA_one _ _ _ _ _ _ _ rfl))))
  refine retRN rfl rfl rfl (setRow_heap _ _ _ _ _ _ (hq_eq (by rw [sz_set]) : _ = some (Obj.cells (ndA 0 0 noS 0 0 0 (.slice none 0 0)) 60 (0, 0)))) (ndA_size _ _ _ _ _ _ _) ?_
  exact ⟨_, rfl, Rep.nilSlice _ _ _, ((((hP.setBad true).alloc _).drew).setRow _ (by omega)), ((((Upd.refl _ w).setCell ⟨b, 1005, none⟩ (.bool true) fun _ => rfl).alloc _).drew).setRow _ _ fun h => absurd h (by omega)⟩
theorem rslash_at (row : RSt → Fo × RSt) {s : ByteArray} {st : RSt} (h : st.pl + 1 < s.size) : rSlash row s st =
    if s[st.pl + 1]'h = 40 then rGroup row s st
    else if 49 ≤ (s[st.pl + 1]'h).toNat ∧ (s[st.pl + 1]'h).toNat ≤ 57 then ((⟨6, 0, noS, ((s[st.pl + 1]'h).toNat : Int) - 48, 0, 0⟩, .nil), rNode { st with refs := true, bad := st.bad || !st.ended ((s[st.pl + 1]'h).toNat - 48) } 2)
    else ((⟨1, s[st.pl + 1]'h, noS, 0, 0, 0⟩, .nil), rNode { st with bad := st.bad || decide (s[st.pl + 1]'h = 41) || decide (s[st.pl + 1]'h = 123) || decide (s[st.pl + 1]'h = 125) } 2) := by
  have h2 : s.data.toList.drop (st.pl + 1) = s[st.pl + 1]'h :: s.data.toList.drop (st.pl + 1 + 1) := by
    have hl := bytes_len s
    rw [List.drop_eq_getElem_cons (i := st.pl + 1) (by omega)]; rfl
  conv => lhs; unfold rSlash
  rw [h2]
set_option maxRecDepth 100000 in set_option maxHeartbeats 4000000 in
theorem rslash_ref (w : World) (b : Nat) (s : ByteArray) (st : RSt) (D : Nat → Prop) (row : RSt → Fo × RSt) (hP : RW w b s st) (hI : RInv s st) (hl : s.size ≤ 1000) (h1 : st.pl + 1 < s.size)
    (hlo : 49 ≤ (s[st.pl + 1]'h1).toNat) (hhi : (s[st.pl + 1]'h1).toNat ≤ 57) :
    Calls Tryd.prog 31 #[.pointer (some ⟨b, 0, none⟩)] w (ROut b s D w (rSlash row s st)) := by
  have hX := rslash_at row h1
  rw [if_neg (by intro e; rw [e] at hlo; revert hlo; decide), if_pos ⟨hlo, hhi⟩] at hX
  rw [hX]
  clear hX
  have h40 : (((s[st.pl + 1]'h1).toNat : Int) == 40) = false := by rw [beq_eq_false_iff_ne]; omega
  have h49 : decide ((49 : Int) ≤ ((s[st.pl + 1]'h1).toNat : Int)) = true := decide_eq_true (by omega)
  have h57 : decide (((s[st.pl + 1]'h1).toNat : Int) ≤ 57) = true := decide_eq_true (by omega)
  obtain ⟨n, hn⟩ : ∃ n, (s[st.pl + 1]'h1).toNat = n + 48 := ⟨(s[st.pl + 1]'h1).toNat - 48, by omega⟩
  have hn1 : ((s[st.pl + 1]'h1).toNat : Int) - 48 = (n : Int) := by omega
  have hn2 : (s[st.pl + 1]'h1).toNat - 48 = n := by omega
  rw [hn1, hn2]
  clear hn1 hn2
  have hwr : IntKind.u8.wrap (((s[st.pl + 1]'h1).toNat : Int) - 48) = (n : Int) := by
    have hsg : IntKind.u8.signed = false := rfl
    simp [IntKind.wrap, IntKind.bits, hsg]; omega
  have hn9 : n < 1000 := by omega
  have HN := Lib.hid hn
  clear hn
  have hb := hP.lt
  have hP1 := (hP.alloc (.cells (ndA 0 0 noS 0 0 0 (.slice none 0 0)) 60)).drew
  have hP2 := hP1.drew
  have hU2 : Upd (atB b) w (((w.alloc (.cells (ndA 0 0 noS 0 0 0 (.slice none 0 0)) 60)).drew).drew) := ((Upd.refl _ _).alloc _).drew.drew
  have hq2 : (((w.alloc (.cells (ndA 0 0 noS 0 0 0 (.slice none 0 0)) 60)).drew).drew).heap[w.heap.size]? = some (.cells (ndA 0 0 noS 0 0 0 (.slice none 0 0)) 60 (0, 0)) := hq_eq rfl
  have c0 := hP1.c0
  have c1 := hP1.c1
  have d0 := hP2.c0
  have d1 := hP2.c1
  have he : decide ((st.pl : Int) + 1 = (s.size : Int)) = false := decide_eq_false (by omega)
  have he2 : ((st.pl : Int) + 1 == (s.size : Int)) = false := by rw [beq_eq_false_iff_ne]; omega
  have hix : (st.pl : Int) + 1 < (s.size : Int) := by omega
  have hix0 : (0 : Int) ≤ (st.pl : Int) + 1 := by omega
  have hixn : ((st.pl : Int) + 1).toNat = st.pl + 1 := by omega
  go_enter Tryd.func31, Tryd.ntmps31
  go_wp2_with fail
  go_region
  go_wp2_with fail
  go_region
  generalize ((w.alloc (.cells (ndA 0 0 noS 0 0 0 (.slice none 0 0)) 60)).drew).drew = W at *
  clear c0 c1 d0 d1 hP1 he he2
  have e5 := hP2.c5
  have e6 := hP2.c6
  have ee := hP2.ce hn9
  have g5 := hP2.free 1004
  have g6 := hP2.free 1005
  have hbb := hP2.lt
  have hf6 : (W.setCell ⟨b, 1004, none⟩ (.bool true)).cell? ⟨b, 1005, none⟩ = some (.bool st.bad) := (hP2.setRefs true).c6
  have hfe : (W.setCell ⟨b, 1004, none⟩ (.bool true)).cell? ⟨b, 4 + n, none⟩ = some (.bool (st.ended n)) := (hP2.setRefs true).ce hn9
  cases hbd : st.bad with
  | true =>
    rw [hbd] at e6 hf6
    have HBD := Lib.hid hbd
    clear hbd
    have hPX := RW.setBad2 (hP2.setRefs true) true (v' := st.bad || !st.ended n) (by rw [HBD.out]; rfl)
    have hUX : Upd (atB b) W ((W.setCell ⟨b, 1004, none⟩ (.bool true)).setCell ⟨b, 1005, none⟩ (.bool true)) := ((Upd.refl _ _).setCell ⟨b, 1004, none⟩ _ fun _ => rfl).setCell ⟨b, 1005, none⟩ _ fun _ => rfl
    have hqX : ((W.setCell ⟨b, 1004, none⟩ (.bool true)).setCell ⟨b, 1005, none⟩ (.bool true)).heap[w.heap.size]? = some (.cells (ndA 0 0 noS 0 0 0 (.slice none 0 0)) 60 (0, 0)) := (hq_set (by simp only; omega)).trans ((hq_set (by simp only; omega)).trans hq2)
    go_wp2_with fail
    refine (rnode_any _ b s _ _ 2 hPX ⟨hI.pl, hI.many, hI.g⟩ hl (by decide) (by first | exact ndA_size _ _ _ _ _ _ _ | simp) (by first | exact ndA_one _ _ _ _ _ _ _ rfl | (simp; exact ndA_one _ _ _ _ _ _ _ rfl))).mono ?_
    rintro e w2 ⟨rfl, hPY, hUY⟩
    have hZ : w2.heap[w.heap.size]? = some (.cells (ndA 0 0 noS 0 0 0 (.slice none 0 0)) 60 (0, 0)) := (hUY.block _ (lt_of_heap hqX) (by simp only [atB]; omega)).trans hqX
    go_wp2_with ((with_reducible apply stRN); (focus rfl); (focus rfl); (focus ((try simp (disch := (first | (simp only [sz_alloc, sz_set, sz_row, sz_drew, sz_drewN] <;> omega) | omega)) only [hq_eq, hq_ne, hq_set, hq_row, hq_drew, hq_drewN]) <;> (first | rfl | assumption))); (focus (first | assumption | exact ndA_size _ _ _ _ _ _ _)); (focus (first | assumption | exact ndA_size _ _ _ _ _ _ _)); (focus (first | assumption | exact ndA_one _ _ _ _ _ _ _ rfl)))
    refine retRN rfl rfl rfl (setRow_heap _ _ _ _ _ _ hZ) (by first | exact ndA_size _ _ _ _ _ _ _ | simp) ?_
    exact ⟨.slice none 0 0, rfl, Rep.nilSlice _ _ _, hPY.setRow _ (by omega), ((hU2.trans hUX).trans hUY).setRow _ _ fun h => absurd h (by omega)⟩
  | false =>
    rw [hbd] at e6 hf6
    have HBD := Lib.hid hbd
    clear hbd
    have hPX := RW.setBad2 (hP2.setRefs true) (!st.ended n) (v' := st.bad || !st.ended n) (by rw [HBD.out]; rfl)
    have hUX : Upd (atB b) W ((W.setCell ⟨b, 1004, none⟩ (.bool true)).setCell ⟨b, 1005, none⟩ (.bool !st.ended n)) := ((Upd.refl _ _).setCell ⟨b, 1004, none⟩ _ fun _ => rfl).setCell ⟨b, 1005, none⟩ _ fun _ => rfl
    have hqX : ((W.setCell ⟨b, 1004, none⟩ (.bool true)).setCell ⟨b, 1005, none⟩ (.bool !st.ended n)).heap[w.heap.size]? = some (.cells (ndA 0 0 noS 0 0 0 (.slice none 0 0)) 60 (0, 0)) := (hq_set (by simp only; omega)).trans ((hq_set (by simp only; omega)).trans hq2)
    go_wp2_with fail
    refine (rnode_any _ b s _ _ 2 hPX ⟨hI.pl, hI.many, hI.g⟩ hl (by decide) (by first | exact ndA_size _ _ _ _ _ _ _ | simp) (by first | exact ndA_one _ _ _ _ _ _ _ rfl | (simp; exact ndA_one _ _ _ _ _ _ _ rfl))).mono ?_
    rintro e w2 ⟨rfl, hPY, hUY⟩
    have hZ : w2.heap[w.heap.size]? = some (.cells (ndA 0 0 noS 0 0 0 (.slice none 0 0)) 60 (0, 0)) := (hUY.block _ (lt_of_heap hqX) (by simp only [atB]; omega)).trans hqX
    go_wp2_with ((with_reducible apply stRN); (focus rfl); (focus rfl); (focus ((try simp (disch := (first | (simp only [sz_alloc, sz_set, sz_row, sz_drew, sz_drewN] <;> omega) | omega)) only [hq_eq, hq_ne, hq_set, hq_row, hq_drew, hq_drewN]) <;> (first | rfl | assumption))); (focus (first | assumption | exact ndA_size _ _ _ _ _ _ _)); (focus (first | assumption | exact ndA_size _ _ _ _ _ _ _)); (focus (first | assumption | exact ndA_one _ _ _ _ _ _ _ rfl)))
    refine retRN rfl rfl rfl (setRow_heap _ _ _ _ _ _ hZ) (by first | exact ndA_size _ _ _ _ _ _ _ | simp) ?_
    exact ⟨.slice none 0 0, rfl, Rep.nilSlice _ _ _, hPY.setRow _ (by omega), ((hU2.trans hUX).trans hUY).setRow _ _ fun h => absurd h (by omega)⟩
set_option maxRecDepth 100000 in set_option maxHeartbeats 4000000 in
theorem rslash_byte (w : World) (b : Nat) (s : ByteArray) (st : RSt) (D : Nat → Prop) (row : RSt → Fo × RSt) (hP : RW w b s st) (hI : RInv s st) (hl : s.size ≤ 1000) (h1 : st.pl + 1 < s.size)
    (h40 : (((s[st.pl + 1]'h1).toNat : Int) == 40) = false) (hd : ¬ (49 ≤ (s[st.pl + 1]'h1).toNat ∧ (s[st.pl + 1]'h1).toNat ≤ 57)) :
    Calls Tryd.prog 31 #[.pointer (some ⟨b, 0, none⟩)] w (ROut b s D w (rSlash row s st)) := by
  have hX := rslash_at row h1
  rw [if_neg (by intro e; rw [e] at h40; cases h40), if_neg hd] at hX
  rw [hX]
  clear hX
  have hsplit : decide ((49 : Int) ≤ ((s[st.pl + 1]'h1).toNat : Int)) = false ∨ (decide ((49 : Int) ≤ ((s[st.pl + 1]'h1).toNat : Int)) = true ∧ decide (((s[st.pl + 1]'h1).toNat : Int) ≤ 57) = false) := by
    by_cases h : 49 ≤ (s[st.pl + 1]'h1).toNat
    · exact .inr ⟨decide_eq_true (by omega), decide_eq_false (by omega)⟩
    · exact .inl (decide_eq_false (by omega))
  clear hd
  have hb := hP.lt
  have hP1 := (hP.alloc (.cells (ndA 0 0 noS 0 0 0 (.slice none 0 0)) 60)).drew
  have hP2 := hP1.drew
  have hU2 : Upd (atB b) w (((w.alloc (.cells (ndA 0 0 noS 0 0 0 (.slice none 0 0)) 60)).drew).drew) := ((Upd.refl _ _).alloc _).drew.drew
  have hq2 : (((w.alloc (.cells (ndA 0 0 noS 0 0 0 (.slice none 0 0)) 60)).drew).drew).heap[w.heap.size]? = some (.cells (ndA 0 0 noS 0 0 0 (.slice none 0 0)) 60 (0, 0)) := hq_eq rfl
  have c0 := hP1.c0
  have c1 := hP1.c1
  have d0 := hP2.c0
  have d1 := hP2.c1
  have he : decide ((st.pl : Int) + 1 = (s.size : Int)) = false := decide_eq_false (by omega)
  have he2 : ((st.pl : Int) + 1 == (s.size : Int)) = false := by rw [beq_eq_false_iff_ne]; omega
  have hix : (st.pl : Int) + 1 < (s.size : Int) := by omega
  have hix0 : (0 : Int) ≤ (st.pl : Int) + 1 := by omega
  have hixn : ((st.pl : Int) + 1).toNat = st.pl + 1 := by omega
  go_enter Tryd.func31, Tryd.ntmps31
  go_wp2_with fail
  go_region
  go_wp2_with fail
  go_region
  generalize ((w.alloc (.cells (ndA 0 0 noS 0 0 0 (.slice none 0 0)) 60)).drew).drew = W at *
  clear c0 c1 d0 d1 hP1 he he2
  have e6 := hP2.c6
  have g6 := hP2.free 1005
  have hbb := hP2.lt
  rcases hsplit with h49 | ⟨h49, h57⟩
  focus
    cases hbd : st.bad with
    | true =>
      rw [hbd] at e6
      have HBD := Lib.hid hbd
      clear hbd
      have hPX := RW.setBad2 hP2 true (v' := st.bad || decide (s[st.pl + 1]'h1 = 41) || decide (s[st.pl + 1]'h1 = 123) || decide (s[st.pl + 1]'h1 = 125)) (by rw [HBD.out]; rfl)
      have hUX : Upd (atB b) W (W.setCell ⟨b, 1005, none⟩ (.bool true)) := (Upd.refl _ _).setCell ⟨b, 1005, none⟩ _ fun _ => rfl
      have hqX : (W.setCell ⟨b, 1005, none⟩ (.bool true)).heap[w.heap.size]? = some (.cells (ndA 0 0 noS 0 0 0 (.slice none 0 0)) 60 (0, 0)) := (hq_set (by simp only; omega)).trans hq2
      go_wp2_with fail
      refine (rnode_any _ b s _ _ 2 hPX ⟨hI.pl, hI.many, hI.g⟩ hl (by decide) (by first | exact ndA_size _ _ _ _ _ _ _ | simp) (by first | exact ndA_one _ _ _ _ _ _ _ rfl | (simp; exact ndA_one _ _ _ _ _ _ _ rfl))).mono ?_
      rintro e w2 ⟨rfl, hPY, hUY⟩
      have hZ : w2.heap[w.heap.size]? = some (.cells (ndA 0 0 noS 0 0 0 (.slice none 0 0)) 60 (0, 0)) := (hUY.block _ (lt_of_heap hqX) (by simp only [atB]; omega)).trans hqX
      go_wp2_with ((with_reducible apply stRN); (focus rfl); (focus rfl); (focus ((try simp (disch := (first | (simp only [sz_alloc, sz_set, sz_row, sz_drew, sz_drewN] <;> omega) | omega)) only [hq_eq, hq_ne, hq_set, hq_row, hq_drew, hq_drewN]) <;> (first | rfl | assumption))); (focus (first | assumption | exact ndA_size _ _ _ _ _ _ _)); (focus (first | assumption | exact ndA_size _ _ _ _ _ _ _)); (focus (first | assumption | exact ndA_one _ _ _ _ _ _ _ rfl)))
      refine retRN rfl rfl rfl (setRow_heap _ _ _ _ _ _ hZ) (by first | exact ndA_size _ _ _ _ _ _ _ | simp) ?_
      exact ⟨.slice none 0 0, rfl, Rep.nilSlice _ _ _, hPY.setRow _ (by omega), ((hU2.trans hUX).trans hUY).setRow _ _ fun h => absurd h (by omega)⟩
    | false =>
      rw [hbd] at e6
      have HBD := Lib.hid hbd
      clear hbd
      cases h41 : (((s[st.pl + 1]'h1).toNat : Int) == 41) with
      | true =>
        have hPX := RW.setBad2 hP2 true (v' := st.bad || decide (s[st.pl + 1]'h1 = 41) || decide (s[st.pl + 1]'h1 = 123) || decide (s[st.pl + 1]'h1 = 125)) (by rw [(show s[st.pl + 1]'h1 = 41 from u8_eq (b := 41) (beq_iff_eq.1 h41))]; simp)
        have hUX : Upd (atB b) W (W.setCell ⟨b, 1005, none⟩ (.bool true)) := (Upd.refl _ _).setCell ⟨b, 1005, none⟩ _ fun _ => rfl
        have hqX : (W.setCell ⟨b, 1005, none⟩ (.bool true)).heap[w.heap.size]? = some (.cells (ndA 0 0 noS 0 0 0 (.slice none 0 0)) 60 (0, 0)) := (hq_set (by simp only; omega)).trans hq2
        go_wp2_with fail
        refine (rnode_any _ b s _ _ 2 hPX ⟨hI.pl, hI.many, hI.g⟩ hl (by decide) (by first | exact ndA_size _ _ _ _ _ _ _ | simp) (by first | exact ndA_one _ _ _ _ _ _ _ rfl | (simp; exact ndA_one _ _ _ _ _ _ _ rfl))).mono ?_
        rintro e w2 ⟨rfl, hPY, hUY⟩
        have hZ : w2.heap[w.heap.size]? = some (.cells (ndA 0 0 noS 0 0 0 (.slice none 0 0)) 60 (0, 0)) := (hUY.block _ (lt_of_heap hqX) (by simp only [atB]; omega)).trans hqX
        go_wp2_with ((with_reducible apply stRN); (focus rfl); (focus rfl); (focus ((try simp (disch := (first | (simp only [sz_alloc, sz_set, sz_row, sz_drew, sz_drewN] <;> omega) | omega)) only [hq_eq, hq_ne, hq_set, hq_row, hq_drew, hq_drewN]) <;> (first | rfl | assumption))); (focus (first | assumption | exact ndA_size _ _ _ _ _ _ _)); (focus (first | assumption | exact ndA_size _ _ _ _ _ _ _)); (focus (first | assumption | exact ndA_one _ _ _ _ _ _ _ rfl)))
        refine retRN rfl rfl rfl (setRow_heap _ _ _ _ _ _ hZ) (by first | exact ndA_size _ _ _ _ _ _ _ | simp) ?_
        exact ⟨.slice none 0 0, rfl, Rep.nilSlice _ _ _, hPY.setRow _ (by omega), ((hU2.trans hUX).trans hUY).setRow _ _ fun h => absurd h (by omega)⟩
      | false =>
        cases h123 : (((s[st.pl + 1]'h1).toNat : Int) == 123) with
        | true =>
          have hPX := RW.setBad2 hP2 true (v' := st.bad || decide (s[st.pl + 1]'h1 = 41) || decide (s[st.pl + 1]'h1 = 123) || decide (s[st.pl + 1]'h1 = 125)) (by rw [(show s[st.pl + 1]'h1 = 123 from u8_eq (b := 123) (beq_iff_eq.1 h123))]; simp)
          have hUX : Upd (atB b) W (W.setCell ⟨b, 1005, none⟩ (.bool true)) := (Upd.refl _ _).setCell ⟨b, 1005, none⟩ _ fun _ => rfl
          have hqX : (W.setCell ⟨b, 1005, none⟩ (.bool true)).heap[w.heap.size]? = some (.cells (ndA 0 0 noS 0 0 0 (.slice none 0 0)) 60 (0, 0)) := (hq_set (by simp only; omega)).trans hq2
          go_wp2_with fail
          refine (rnode_any _ b s _ _ 2 hPX ⟨hI.pl, hI.many, hI.g⟩ hl (by decide) (by first | exact ndA_size _ _ _ _ _ _ _ | simp) (by first | exact ndA_one _ _ _ _ _ _ _ rfl | (simp; exact ndA_one _ _ _ _ _ _ _ rfl))).mono ?_
          rintro e w2 ⟨rfl, hPY, hUY⟩
          have hZ : w2.heap[w.heap.size]? = some (.cells (ndA 0 0 noS 0 0 0 (.slice none 0 0)) 60 (0, 0)) := (hUY.block _ (lt_of_heap hqX) (by simp only [atB]; omega)).trans hqX
          go_wp2_with ((with_reducible apply stRN); (focus rfl); (focus rfl); (focus ((try simp (disch := (first | (simp only [sz_alloc, sz_set, sz_row, sz_drew, sz_drewN] <;> omega) | omega)) only [hq_eq, hq_ne, hq_set, hq_row, hq_drew, hq_drewN]) <;> (first | rfl | assumption))); (focus (first | assumption | exact ndA_size _ _ _ _ _ _ _)); (focus (first | assumption | exact ndA_size _ _ _ _ _ _ _)); (focus (first | assumption | exact ndA_one _ _ _ _ _ _ _ rfl)))
          refine retRN rfl rfl rfl (setRow_heap _ _ _ _ _ _ hZ) (by first | exact ndA_size _ _ _ _ _ _ _ | simp) ?_
          exact ⟨.slice none 0 0, rfl, Rep.nilSlice _ _ _, hPY.setRow _ (by omega), ((hU2.trans hUX).trans hUY).setRow _ _ fun h => absurd h (by omega)⟩
        | false =>
          cases h125 : (((s[st.pl + 1]'h1).toNat : Int) == 125) with
          | true =>
            have hPX := RW.setBad2 hP2 true (v' := st.bad || decide (s[st.pl + 1]'h1 = 41) || decide (s[st.pl + 1]'h1 = 123) || decide (s[st.pl + 1]'h1 = 125)) (by rw [(show s[st.pl + 1]'h1 = 125 from u8_eq (b := 125) (beq_iff_eq.1 h125))]; simp)
            have hUX : Upd (atB b) W (W.setCell ⟨b, 1005, none⟩ (.bool true)) := (Upd.refl _ _).setCell ⟨b, 1005, none⟩ _ fun _ => rfl
            have hqX : (W.setCell ⟨b, 1005, none⟩ (.bool true)).heap[w.heap.size]? = some (.cells (ndA 0 0 noS 0 0 0 (.slice none 0 0)) 60 (0, 0)) := (hq_set (by simp only; omega)).trans hq2
            go_wp2_with fail
            refine (rnode_any _ b s _ _ 2 hPX ⟨hI.pl, hI.many, hI.g⟩ hl (by decide) (by first | exact ndA_size _ _ _ _ _ _ _ | simp) (by first | exact ndA_one _ _ _ _ _ _ _ rfl | (simp; exact ndA_one _ _ _ _ _ _ _ rfl))).mono ?_
            rintro e w2 ⟨rfl, hPY, hUY⟩
            have hZ : w2.heap[w.heap.size]? = some (.cells (ndA 0 0 noS 0 0 0 (.slice none 0 0)) 60 (0, 0)) := (hUY.block _ (lt_of_heap hqX) (by simp only [atB]; omega)).trans hqX
            go_wp2_with ((with_reducible apply stRN); (focus rfl); (focus rfl); (focus ((try simp (disch := (first | (simp only [sz_alloc, sz_set, sz_row, sz_drew, sz_drewN] <;> omega) | omega)) only [hq_eq, hq_ne, hq_set, hq_row, hq_drew, hq_drewN]) <;> (first | rfl | assumption))); (focus (first | assumption | exact ndA_size _ _ _ _ _ _ _)); (focus (first | assumption | exact ndA_size _ _ _ _ _ _ _)); (focus (first | assumption | exact ndA_one _ _ _ _ _ _ _ rfl)))
            refine retRN rfl rfl rfl (setRow_heap _ _ _ _ _ _ hZ) (by first | exact ndA_size _ _ _ _ _ _ _ | simp) ?_
            exact ⟨.slice none 0 0, rfl, Rep.nilSlice _ _ _, hPY.setRow _ (by omega), ((hU2.trans hUX).trans hUY).setRow _ _ fun h => absurd h (by omega)⟩
          | false =>
            have hPX := RW.setBad2 hP2 false (v' := st.bad || decide (s[st.pl + 1]'h1 = 41) || decide (s[st.pl + 1]'h1 = 123) || decide (s[st.pl + 1]'h1 = 125)) (by rw [HBD.out, decide_eq_false (fun e => by rw [e] at h41; cases h41), decide_eq_false (fun e => by rw [e] at h123; cases h123), decide_eq_false (fun e => by rw [e] at h125; cases h125)]; rfl)
            have hUX : Upd (atB b) W (W.setCell ⟨b, 1005, none⟩ (.bool false)) := (Upd.refl _ _).setCell ⟨b, 1005, none⟩ _ fun _ => rfl
            have hqX : (W.setCell ⟨b, 1005, none⟩ (.bool false)).heap[w.heap.size]? = some (.cells (ndA 0 0 noS 0 0 0 (.slice none 0 0)) 60 (0, 0)) := (hq_set (by simp only; omega)).trans hq2
            go_wp2_with fail
            refine (rnode_any _ b s _ _ 2 hPX ⟨hI.pl, hI.many, hI.g⟩ hl (by decide) (by first | exact ndA_size _ _ _ _ _ _ _ | simp) (by first | exact ndA_one _ _ _ _ _ _ _ rfl | (simp; exact ndA_one _ _ _ _ _ _ _ rfl))).mono ?_
            rintro e w2 ⟨rfl, hPY, hUY⟩
            have hZ : w2.heap[w.heap.size]? = some (.cells (ndA 0 0 noS 0 0 0 (.slice none 0 0)) 60 (0, 0)) := (hUY.block _ (lt_of_heap hqX) (by simp only [atB]; omega)).trans hqX
            go_wp2_with ((with_reducible apply stRN); (focus rfl); (focus rfl); (focus ((try simp (disch := (first | (simp only [sz_alloc, sz_set, sz_row, sz_drew, sz_drewN] <;> omega) | omega)) only [hq_eq, hq_ne, hq_set, hq_row, hq_drew, hq_drewN]) <;> (first | rfl | assumption))); (focus (first | assumption | exact ndA_size _ _ _ _ _ _ _)); (focus (first | assumption | exact ndA_size _ _ _ _ _ _ _)); (focus (first | assumption | exact ndA_one _ _ _ _ _ _ _ rfl)))
            refine retRN rfl rfl rfl (setRow_heap _ _ _ _ _ _ hZ) (by first | exact ndA_size _ _ _ _ _ _ _ | simp) ?_
            exact ⟨.slice none 0 0, rfl, Rep.nilSlice _ _ _, hPY.setRow _ (by omega), ((hU2.trans hUX).trans hUY).setRow _ _ fun h => absurd h (by omega)⟩
  focus
    cases hbd : st.bad with
    | true =>
      rw [hbd] at e6
      have HBD := Lib.hid hbd
      clear hbd
      have hPX := RW.setBad2 hP2 true (v' := st.bad || decide (s[st.pl + 1]'h1 = 41) || decide (s[st.pl + 1]'h1 = 123) || decide (s[st.pl + 1]'h1 = 125)) (by rw [HBD.out]; rfl)
      have hUX : Upd (atB b) W (W.setCell ⟨b, 1005, none⟩ (.bool true)) := (Upd.refl _ _).setCell ⟨b, 1005, none⟩ _ fun _ => rfl
      have hqX : (W.setCell ⟨b, 1005, none⟩ (.bool true)).heap[w.heap.size]? = some (.cells (ndA 0 0 noS 0 0 0 (.slice none 0 0)) 60 (0, 0)) := (hq_set (by simp only; omega)).trans hq2
      go_wp2_with fail
      refine (rnode_any _ b s _ _ 2 hPX ⟨hI.pl, hI.many, hI.g⟩ hl (by decide) (by first | exact ndA_size _ _ _ _ _ _ _ | simp) (by first | exact ndA_one _ _ _ _ _ _ _ rfl | (simp; exact ndA_one _ _ _ _ _ _ _ rfl))).mono ?_
      rintro e w2 ⟨rfl, hPY, hUY⟩
      have hZ : w2.heap[w.heap.size]? = some (.cells (ndA 0 0 noS 0 0 0 (.slice none 0 0)) 60 (0, 0)) := (hUY.block _ (lt_of_heap hqX) (by simp only [atB]; omega)).trans hqX
      go_wp2_with ((with_reducible apply stRN); (focus rfl); (focus rfl); (focus ((try simp (disch := (first | (simp only [sz_alloc, sz_set, sz_row, sz_drew, sz_drewN] <;> omega) | omega)) only [hq_eq, hq_ne, hq_set, hq_row, hq_drew, hq_drewN]) <;> (first | rfl | assumption))); (focus (first | assumption | exact ndA_size _ _ _ _ _ _ _)); (focus (first | assumption | exact ndA_size _ _ _ _ _ _ _)); (focus (first | assumption | exact ndA_one _ _ _ _ _ _ _ rfl)))
      refine retRN rfl rfl rfl (setRow_heap _ _ _ _ _ _ hZ) (by first | exact ndA_size _ _ _ _ _ _ _ | simp) ?_
      exact ⟨.slice none 0 0, rfl, Rep.nilSlice _ _ _, hPY.setRow _ (by omega), ((hU2.trans hUX).trans hUY).setRow _ _ fun h => absurd h (by omega)⟩
    | false =>
      rw [hbd] at e6
      have HBD := Lib.hid hbd
      clear hbd
      cases h41 : (((s[st.pl + 1]'h1).toNat : Int) == 41) with
      | true =>
        have hPX := RW.setBad2 hP2 true (v' := st.bad || decide (s[st.pl + 1]'h1 = 41) || decide (s[st.pl + 1]'h1 = 123) || decide (s[st.pl + 1]'h1 = 125)) (by rw [(show s[st.pl + 1]'h1 = 41 from u8_eq (b := 41) (beq_iff_eq.1 h41))]; simp)
        have hUX : Upd (atB b) W (W.setCell ⟨b, 1005, none⟩ (.bool true)) := (Upd.refl _ _).setCell ⟨b, 1005, none⟩ _ fun _ => rfl
        have hqX : (W.setCell ⟨b, 1005, none⟩ (.bool true)).heap[w.heap.size]? = some (.cells (ndA 0 0 noS 0 0 0 (.slice none 0 0)) 60 (0, 0)) := (hq_set (by simp only; omega)).trans hq2
        go_wp2_with fail
        refine (rnode_any _ b s _ _ 2 hPX ⟨hI.pl, hI.many, hI.g⟩ hl (by decide) (by first | exact ndA_size _ _ _ _ _ _ _ | simp) (by first | exact ndA_one _ _ _ _ _ _ _ rfl | (simp; exact ndA_one _ _ _ _ _ _ _ rfl))).mono ?_
        rintro e w2 ⟨rfl, hPY, hUY⟩
        have hZ : w2.heap[w.heap.size]? = some (.cells (ndA 0 0 noS 0 0 0 (.slice none 0 0)) 60 (0, 0)) := (hUY.block _ (lt_of_heap hqX) (by simp only [atB]; omega)).trans hqX
        go_wp2_with ((with_reducible apply stRN); (focus rfl); (focus rfl); (focus ((try simp (disch := (first | (simp only [sz_alloc, sz_set, sz_row, sz_drew, sz_drewN] <;> omega) | omega)) only [hq_eq, hq_ne, hq_set, hq_row, hq_drew, hq_drewN]) <;> (first | rfl | assumption))); (focus (first | assumption | exact ndA_size _ _ _ _ _ _ _)); (focus (first | assumption | exact ndA_size _ _ _ _ _ _ _)); (focus (first | assumption | exact ndA_one _ _ _ _ _ _ _ rfl)))
        refine retRN rfl rfl rfl (setRow_heap _ _ _ _ _ _ hZ) (by first | exact ndA_size _ _ _ _ _ _ _ | simp) ?_
        exact ⟨.slice none 0 0, rfl, Rep.nilSlice _ _ _, hPY.setRow _ (by omega), ((hU2.trans hUX).trans hUY).setRow _ _ fun h => absurd h (by omega)⟩
      | false =>
        cases h123 : (((s[st.pl + 1]'h1).toNat : Int) == 123) with
        | true =>
          have hPX := RW.setBad2 hP2 true (v' := st.bad || decide (s[st.pl + 1]'h1 = 41) || decide (s[st.pl + 1]'h1 = 123) || decide (s[st.pl + 1]'h1 = 125)) (by rw [(show s[st.pl + 1]'h1 = 123 from u8_eq (b := 123) (beq_iff_eq.1 h123))]; simp)
          have hUX : Upd (atB b) W (W.setCell ⟨b, 1005, none⟩ (.bool true)) := (Upd.refl _ _).setCell ⟨b, 1005, none⟩ _ fun _ => rfl
          have hqX : (W.setCell ⟨b, 1005, none⟩ (.bool true)).heap[w.heap.size]? = some (.cells (ndA 0 0 noS 0 0 0 (.slice none 0 0)) 60 (0, 0)) := (hq_set (by simp only; omega)).trans hq2
          go_wp2_with fail
          refine (rnode_any _ b s _ _ 2 hPX ⟨hI.pl, hI.many, hI.g⟩ hl (by decide) (by first | exact ndA_size _ _ _ _ _ _ _ | simp) (by first | exact ndA_one _ _ _ _ _ _ _ rfl | (simp; exact ndA_one _ _ _ _ _ _ _ rfl))).mono ?_
          rintro e w2 ⟨rfl, hPY, hUY⟩
          have hZ : w2.heap[w.heap.size]? = some (.cells (ndA 0 0 noS 0 0 0 (.slice none 0 0)) 60 (0, 0)) := (hUY.block _ (lt_of_heap hqX) (by simp only [atB]; omega)).trans hqX
          go_wp2_with ((with_reducible apply stRN); (focus rfl); (focus rfl); (focus ((try simp (disch := (first | (simp only [sz_alloc, sz_set, sz_row, sz_drew, sz_drewN] <;> omega) | omega)) only [hq_eq, hq_ne, hq_set, hq_row, hq_drew, hq_drewN]) <;> (first | rfl | assumption))); (focus (first | assumption | exact ndA_size _ _ _ _ _ _ _)); (focus (first | assumption | exact ndA_size _ _ _ _ _ _ _)); (focus (first | assumption | exact ndA_one _ _ _ _ _ _ _ rfl)))
          refine retRN rfl rfl rfl (setRow_heap _ _ _ _ _ _ hZ) (by first | exact ndA_size _ _ _ _ _ _ _ | simp) ?_
          exact ⟨.slice none 0 0, rfl, Rep.nilSlice _ _ _, hPY.setRow _ (by omega), ((hU2.trans hUX).trans hUY).setRow _ _ fun h => absurd h (by omega)⟩
        | false =>
          cases h125 : (((s[st.pl + 1]'h1).toNat : Int) == 125) with
          | true =>
            have hPX := RW.setBad2 hP2 true (v' := st.bad || decide (s[st.pl + 1]'h1 = 41) || decide (s[st.pl + 1]'h1 = 123) || decide (s[st.pl + 1]'h1 = 125)) (by rw [(show s[st.pl + 1]'h1 = 125 from u8_eq (b := 125) (beq_iff_eq.1 h125))]; simp)
            have hUX : Upd (atB b) W (W.setCell ⟨b, 1005, none⟩ (.bool true)) := (Upd.refl _ _).setCell ⟨b, 1005, none⟩ _ fun _ => rfl
            have hqX : (W.setCell ⟨b, 1005, none⟩ (.bool true)).heap[w.heap.size]? = some (.cells (ndA 0 0 noS 0 0 0 (.slice none 0 0)) 60 (0, 0)) := (hq_set (by simp only; omega)).trans hq2
            go_wp2_with fail
            refine (rnode_any _ b s _ _ 2 hPX ⟨hI.pl, hI.many, hI.g⟩ hl (by decide) (by first | exact ndA_size _ _ _ _ _ _ _ | simp) (by first | exact ndA_one _ _ _ _ _ _ _ rfl | (simp; exact ndA_one _ _ _ _ _ _ _ rfl))).mono ?_
            rintro e w2 ⟨rfl, hPY, hUY⟩
            have hZ : w2.heap[w.heap.size]? = some (.cells (ndA 0 0 noS 0 0 0 (.slice none 0 0)) 60 (0, 0)) := (hUY.block _ (lt_of_heap hqX) (by simp only [atB]; omega)).trans hqX
            go_wp2_with ((with_reducible apply stRN); (focus rfl); (focus rfl); (focus ((try simp (disch := (first | (simp only [sz_alloc, sz_set, sz_row, sz_drew, sz_drewN] <;> omega) | omega)) only [hq_eq, hq_ne, hq_set, hq_row, hq_drew, hq_drewN]) <;> (first | rfl | assumption))); (focus (first | assumption | exact ndA_size _ _ _ _ _ _ _)); (focus (first | assumption | exact ndA_size _ _ _ _ _ _ _)); (focus (first | assumption | exact ndA_one _ _ _ _ _ _ _ rfl)))
            refine retRN rfl rfl rfl (setRow_heap _ _ _ _ _ _ hZ) (by first | exact ndA_size _ _ _ _ _ _ _ | simp) ?_
            exact ⟨.slice none 0 0, rfl, Rep.nilSlice _ _ _, hPY.setRow _ (by omega), ((hU2.trans hUX).trans hUY).setRow _ _ fun h => absurd h (by omega)⟩
          | false =>
            have hPX := RW.setBad2 hP2 false (v' := st.bad || decide (s[st.pl + 1]'h1 = 41) || decide (s[st.pl + 1]'h1 = 123) || decide (s[st.pl + 1]'h1 = 125)) (by rw [HBD.out, decide_eq_false (fun e => by rw [e] at h41; cases h41), decide_eq_false (fun e => by rw [e] at h123; cases h123), decide_eq_false (fun e => by rw [e] at h125; cases h125)]; rfl)
            have hUX : Upd (atB b) W (W.setCell ⟨b, 1005, none⟩ (.bool false)) := (Upd.refl _ _).setCell ⟨b, 1005, none⟩ _ fun _ => rfl
            have hqX : (W.setCell ⟨b, 1005, none⟩ (.bool false)).heap[w.heap.size]? = some (.cells (ndA 0 0 noS 0 0 0 (.slice none 0 0)) 60 (0, 0)) := (hq_set (by simp only; omega)).trans hq2
            go_wp2_with fail
            refine (rnode_any _ b s _ _ 2 hPX ⟨hI.pl, hI.many, hI.g⟩ hl (by decide) (by first | exact ndA_size _ _ _ _ _ _ _ | simp) (by first | exact ndA_one _ _ _ _ _ _ _ rfl | (simp; exact ndA_one _ _ _ _ _ _ _ rfl))).mono ?_
            rintro e w2 ⟨rfl, hPY, hUY⟩
            have hZ : w2.heap[w.heap.size]? = some (.cells (ndA 0 0 noS 0 0 0 (.slice none 0 0)) 60 (0, 0)) := (hUY.block _ (lt_of_heap hqX) (by simp only [atB]; omega)).trans hqX
            go_wp2_with ((with_reducible apply stRN); (focus rfl); (focus rfl); (focus ((try simp (disch := (first | (simp only [sz_alloc, sz_set, sz_row, sz_drew, sz_drewN] <;> omega) | omega)) only [hq_eq, hq_ne, hq_set, hq_row, hq_drew, hq_drewN]) <;> (first | rfl | assumption))); (focus (first | assumption | exact ndA_size _ _ _ _ _ _ _)); (focus (first | assumption | exact ndA_size _ _ _ _ _ _ _)); (focus (first | assumption | exact ndA_one _ _ _ _ _ _ _ rfl)))
            refine retRN rfl rfl rfl (setRow_heap _ _ _ _ _ _ hZ) (by first | exact ndA_size _ _ _ _ _ _ _ | simp) ?_
            exact ⟨.slice none 0 0, rfl, Rep.nilSlice _ _ _, hPY.setRow _ (by omega), ((hU2.trans hUX).trans hUY).setRow _ _ fun h => absurd h (by omega)⟩
end Go.Proofs.YtkbfckigndkkkaaDoor
