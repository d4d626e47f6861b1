/-
  Walks: groups of a pattern.
-/
import Derived.Test.YtkbfckigndkkkaaDoorEnv
import Derived.Test.YtkbfckigndkkkaaDoorMem
import Derived.Deep.RegionLaw
import Derived.Deep.RegionHeld3
import Derived.Deep.AppendLies
namespace Go.Proofs.YtkbfckigndkkkaaDoor
set_option linter.unusedSimpArgs false
set_option linter.unusedVariables false
open Go Go.RowKit

theorem own_sp {w w2 : World} {b : Nat} {ov : Value} {zs : List Int} (hU : Upd (SP b) w w2) (hO : OpenAt w2 b ov zs) : ∀ k, ov.ownBlock = some k → k < w.heap.size → SP b k w.heap[k]? := by
  intro k hk hlt
  obtain ⟨_, h2⟩ := hO
  rcases h2 with ⟨rfl, _⟩ | ⟨g, cap, cur, rfl, hb, hh, _⟩
  · cases hk
  · obtain rfl : g = k := by simpa [Value.ownBlock] using hk
    rcases Classical.em (SP b g w.heap[g]?) with h | h
    · exact h
    · exact .inr ⟨by omega, cur, (0, 0), by rw [← hh, hU.block g hlt h]⟩
theorem StW.setCellNode {w : World} {b : Nat} {st : PSt} {g i : Nat} {cs : Array Value} {v : Value} (h : StW w b st) (hg : w.heap[g]? = some (.cells cs 41 (0, 0))) : StW (w.setCell ⟨g, i, none⟩ v) b st := by
  obtain ⟨s, ov, hs, hP, hO⟩ := h
  refine ⟨s, ov, hs, hP.setOther _ ?_, hO.keep (Keep.setCellT (p := ⟨g, i, none⟩) hg (by decide) _)⟩
  simp only
  rintro rfl
  rw [hP] at hg
  cases hg
theorem map_dropLast_snoc {α β : Type} (f : α → β) (l : List α) (x : α) : ((l ++ [x]).map f).dropLast = l.map f := by rw [List.map_append, List.map_singleton, List.dropLast_concat]

set_option maxRecDepth 100000 in set_option maxHeartbeats 4000000 in
theorem group_any (n : Nat) (hrow : RowSaid n) (w : World) (b : Nat) (st : PSt) (hS : StW w b st) (hE : Env w) (h4 : 4 ≤ b) (h0 : 0 ≤ st.m) (h1 : st.m ≤ 200) (g0 : 0 ≤ st.g) (g9 : st.g ≤ 9) (ho : st.opn.length ≤ st.g)
    (hl : st.left.length < n) (hl2 : st.left.length ≤ 1000) :
    Calls Tryd.prog 35 #[.pointer (some ⟨b, 0, none⟩)] w (OutN b (fun _ => False) w (groupS (fun s => rowS n s .nil) st)) := by
  obtain ⟨s, ov, hs, hP, hO⟩ := hS
  have hb := hP.lt
  obtain ⟨-, c2, c3, -, c5⟩ := hP.cells
  obtain ⟨-, -, f2, f3, -, f5⟩ := hP.free
  by_cases hg : st.g + 1 ≤ 9
  · have hd : decide (st.g + 1 ≤ 9) = true := by simpa using hg
    by_cases hm : st.m + 1 ≤ 200
    · go_enter Tryd.func35, Tryd.ntmps35
      go_wp2_with (go_at_call 14; refine (must_true _).mono ?_; rintro e w' ⟨rfl, rfl⟩)
      refine (node_yes _ b { st with g := st.g + 1 } _ ⟨s, ov, hs, (hP.setG _).alloc _, (hO.setP _ _).keep (Keep.alloc _)⟩ h0 hm (ndA_size _ _ _ _ _ _ _) (ndA_one _ _ _ _ _ _ _ rfl)).mono ?_
      rintro e w1 ⟨rfl, ⟨s1, ov1, hs1, hP1, hO1⟩, hU1⟩
      have hgr : w1.heap[w.heap.size]? = some (.cells (ndA 0 0 noS 0 0 0 (.slice none 0 0)) 41 (0, 0)) := by
        rw [hU1.block _ (by rw [sz_alloc, sz_set]; omega) (by simp only [atB]; omega)]; exact (by (focus ((try simp (disch := (first | (simp only [sz_alloc, sz_set, sz_row, sz_drew, sz_drewN] <;> omega) | omega)) only [hq_eq, hq_ne, hq_set, hq_row, hq_drew, hq_drewN]) <;> (first | rfl | assumption))))
      have hU1' : Upd (atB b) w w1 := (((Upd.refl _ _).setCell _ _ fun _ => rfl).alloc _).trans hU1
      have hs1 := hU1.size
      rw [sz_alloc, sz_set] at hs1
      go_wp2_with ((with_reducible apply stNode); (focus rfl); (focus rfl); (focus ((try simp (disch := (first | (simp only [sz_alloc, sz_set, sz_row, sz_drew, sz_drewN] <;> omega) | omega)) only [hq_eq, hq_ne, hq_set, hq_row, hq_drew, hq_drewN]) <;> (first | rfl | assumption))); (focus (first | assumption | exact ndA_size _ _ _ _ _ _ _)); (focus (first | assumption | exact ndA_size _ _ _ _ _ _ _)); (focus (first | assumption | exact ndA_one _ _ _ _ _ _ _ rfl)))
      have hP2 := (hP1.alloc (.cells (ndA 0 0 noS 0 0 0 (.slice none 0 0)) 41)).setRow (k := w1.heap.size) (ndA 7 0 noS (st.g + 1) 0 0 (.slice none 0 0)) (by omega)
      have hgx2 : ((w1.alloc (.cells (ndA 0 0 noS 0 0 0 (.slice none 0 0)) 41)).setRow w1.heap.size (ndA 7 0 noS (st.g + 1) 0 0 (.slice none 0 0))).heap[w1.heap.size]? = some (.cells (ndA 7 0 noS (st.g + 1) 0 0 (.slice none 0 0)) 41 (0, 0)) := setRow_heap _ _ _ _ _ _ (by (focus ((try simp (disch := (first | (simp only [sz_alloc, sz_set, sz_row, sz_drew, sz_drewN] <;> omega) | omega)) only [hq_eq, hq_ne, hq_set, hq_row, hq_drew, hq_drewN]) <;> (first | rfl | assumption))))
      have hgr2 : ((w1.alloc (.cells (ndA 0 0 noS 0 0 0 (.slice none 0 0)) 41)).setRow w1.heap.size (ndA 7 0 noS (st.g + 1) 0 0 (.slice none 0 0))).heap[w.heap.size]? = some (.cells (ndA 0 0 noS 0 0 0 (.slice none 0 0)) 41 (0, 0)) := (by (focus ((try simp (disch := (first | (simp only [sz_alloc, sz_set, sz_row, sz_drew, sz_drewN] <;> omega) | omega)) only [hq_eq, hq_ne, hq_set, hq_row, hq_drew, hq_drewN]) <;> (first | rfl | assumption))))
      have hO2 : OpenAt ((w1.alloc (.cells (ndA 0 0 noS 0 0 0 (.slice none 0 0)) 41)).setRow w1.heap.size (ndA 7 0 noS (st.g + 1) 0 0 (.slice none 0 0))) b ov1 st.opn := (hO1.keep (Keep.alloc _)).keep (Keep.setRowT (by exact (by (focus ((try simp (disch := (first | (simp only [sz_alloc, sz_set, sz_row, sz_drew, sz_drewN] <;> omega) | omega)) only [hq_eq, hq_ne, hq_set, hq_row, hq_drew, hq_drewN]) <;> (first | rfl | assumption))))) (by decide) _)
      have hU2 : Upd (atB b) w ((w1.alloc (.cells (ndA 0 0 noS 0 0 0 (.slice none 0 0)) 41)).setRow w1.heap.size (ndA 7 0 noS (st.g + 1) 0 0 (.slice none 0 0))) := (hU1'.alloc _).setRow _ _ fun h => absurd h (by omega)
      have hsz2 : ((w1.alloc (.cells (ndA 0 0 noS 0 0 0 (.slice none 0 0)) 41)).setRow w1.heap.size (ndA 7 0 noS (st.g + 1) 0 0 (.slice none 0 0))).heap.size = w1.heap.size + 1 := by simp
      generalize (w1.alloc (.cells (ndA 0 0 noS 0 0 0 (.slice none 0 0)) 41)).setRow w1.heap.size (ndA 7 0 noS (st.g + 1) 0 0 (.slice none 0 0)) = w2 at *
      have HSZ := Lib.hid hsz2
      clear hsz2
      obtain ⟨-, -, -, -, d5⟩ := hP2.cells
      obtain ⟨-, -, -, -, -, e5⟩ := hP2.free
      have dn : w2.cell? ⟨w1.heap.size, 258, none⟩ = some (.int .i64 (st.g + 1)) := by rw [cell_of_heap hgx2]; exact ndA_get258 _ _ _ _ _ _ _
      have hb2 := hP2.lt
      go_region_law ((
        (refine stepAppendAt (b + 1) (v := ov1) (n := st.opn.length) (xs := st.opn.map (Value.int .i64)) (ad := ⟨w2.heap.size, 0, none⟩) (m := 1) (c := 1) (size := 1) (bytes := 8) Tryd.underlying48 int1.choose_spec.1 int1.choose_spec.2.1 int1.choose_spec.2.2.1 int1.choose_spec.2.2.2 rfl (by decide) ?_ ?_ [.int .i64 (st.g + 1)] ?_ rfl ?_ (one_list rfl) ?_ ?_ ?_ ?_); exact rfl; exact OpenAt.keep hO2 (Keep.alloc _); exact rfl; exact news_one (by simp [go_sem]); (focus (unfold maxLen; omega)); omega; (focus (simp; omega)); (intro v3 w3 hown3 hgr3 hat3; obtain ⟨a3, c3, rfl⟩ := own_slice hown3; have hP3 := grown_heap hgr3 ((hP2.alloc _).drew) (own_ne hO2 hP2 (by decide)); have hgx3 := grown_heap hgr3 (k := w1.heap.size) (by rw [hq_drew, heap_alloc_lt (lt_of_heap hgx2)]; exact hgx2) (own_ne hO2 hgx2 (by decide)); have k5 := cell_of_heap hP3 5; have k7 := free_of_heap hP3 5; have k8 := lt_of_heap hP3)))
      all_goals (
        have hP4 := PW.setO (show PW w3 b s1 (st.g + 1) (st.m + 1) st.r ov1 from hP3) (.slice a3 (st.opn.length + 1) c3)
        have hO4 : OpenAt (w3.setCell ⟨b, 5, none⟩ (.slice a3 (st.opn.length + 1) c3)) b (.slice a3 (st.opn.length + 1) c3) (st.opn ++ [st.g + 1]) := by
          refine OpenAt.setP ?_ _ _
          unfold OpenAt; rw [List.length_append, List.length_singleton, List.map_append]; exact hown3
        have hU4 : Upd (SP b) w (w3.setCell ⟨b, 5, none⟩ (.slice a3 (st.opn.length + 1) c3)) :=
          ((((hU2.sp).alloc _).drew).grown hgr3 (own_sp hU2.sp hO2)).setCell _ _ fun _ => .inl rfl
        have hgx4 : (w3.setCell ⟨b, 5, none⟩ (.slice a3 (st.opn.length + 1) c3)).heap[w1.heap.size]? = _ := (hq_set (by simp only; omega)).trans hgx3
        have hgr4 : (w3.setCell ⟨b, 5, none⟩ (.slice a3 (st.opn.length + 1) c3)).heap[w.heap.size]? = some (.cells (ndA 0 0 noS 0 0 0 (.slice none 0 0)) 41 (0, 0)) :=
          (hq_set (by simp only; omega)).trans (grown_heap hgr3 (by rw [hq_drew, heap_alloc_lt (lt_of_heap hgr2)]; exact hgr2) (own_ne hO2 hgr2 (by decide)))
        clear hgx3 hP3 hown3 hat3 k5 k7 k8 hgr3
        go_wp2_with fail
        generalize w3.setCell ⟨b, 5, none⟩ (.slice a3 (st.opn.length + 1) c3) = w4 at *
        have hS4 : StW w4 b { st with g := st.g + 1, m := st.m + 1, opn := st.opn ++ [st.g + 1] } := ⟨s1, _, by assumption, hP4, hO4⟩
        have hroww := hrow w4 b _ hS4 (hE.sp hU4 h4 hb) h4 (by simp only; omega) (by simp only; omega) (by simp only; omega) (by simp only; omega) (by simp only [List.length_append, List.length_singleton]; omega) (by simpa using hl) (by simpa using hl2)
        have hsz4 := hU4.size
        have hgz := lt_of_heap hgx4
        refine hroww.mono ?_
        cases hq : rowS n { st with g := st.g + 1, m := st.m + 1, opn := st.opn ++ [st.g + 1] } .nil with
        | none =>
          rintro e w5 ⟨rfl, hU5⟩
          go_wp2_with fail
          have hG : groupS (fun s => rowS n s .nil) st = none := by simp only [groupS, nodeS, if_pos hg, if_pos hm, hq]
          rw [hG]
          exact ⟨rfl, rfl, hU4.trans hU5⟩
        | some r =>
          obtain ⟨kids, st2⟩ := r
          rintro e w5 ⟨v5, rfl, hR5, hS5, hU5⟩
          obtain ⟨a5, c5, rfl⟩ := hR5.slice
          have hM := rowS_mono n _ _ _ _ (by simp only; omega) (by simp only; omega) hq
          have hgx5 := keepNode_st (D := fun _ => True) hS4 hU5 _ _ _ trivial hgx4
          have hgr5 := keepNode_st (D := fun _ => True) hS4 hU5 _ _ _ trivial hgr4
          have hgz5 := lt_of_heap hgx5
          have hb5 := hS5.lt
          have k5 : w5.cell? ⟨w1.heap.size, 261, none⟩ = some (.slice none 0 0) := by rw [cell_of_heap hgx5]; exact ndA_get261 _ _ _ _ _ _ _
          have f5 := free_of_heap hgx5 261
          go_wp2_with fail
          have hgx6 := heap_setCell_at hgx5 261 (.slice a5 kids.tops.length c5)
          rw [ndA_set261] at hgx6
          have hgr6 : (w5.setCell ⟨w1.heap.size, 261, none⟩ (.slice a5 kids.tops.length c5)).heap[w.heap.size]? = some (.cells (ndA 0 0 noS 0 0 0 (.slice none 0 0)) 41 (0, 0)) := (hq_set (by simp only; omega)).trans hgr5
          have hS6 : StW (w5.setCell ⟨w1.heap.size, 261, none⟩ (.slice a5 kids.tops.length c5)) b st2 := hS5.setCellNode hgx5
          have hR6 : Rep (fun j => w4.heap.size ≤ j) 41 (w5.setCell ⟨w1.heap.size, 261, none⟩ (.slice a5 kids.tops.length c5)) (.slice a5 kids.tops.length c5) kids :=
            hR5.keep (Keep.setCell _ _ fun k hk _ => by simp only; omega)
          have hU6 : Upd (SP b) w (w5.setCell ⟨w1.heap.size, 261, none⟩ (.slice a5 kids.tops.length c5)) := (hU4.trans hU5).setCell _ _ fun h => absurd h (by simp only; omega)
          have hsz6 : (w5.setCell ⟨w1.heap.size, 261, none⟩ (.slice a5 kids.tops.length c5)).heap.size = w5.heap.size := sz_set _ _ _
          generalize w5.setCell ⟨w1.heap.size, 261, none⟩ (.slice a5 kids.tops.length c5) = w6 at *
          refine (take_st w6 b st2 _ hS6).mono ?_
          rintro e w7 ⟨rfl, hS7, hU7⟩
          rw [show ((⟨#[92, 41]⟩ : ByteArray).data.toList) = [92, 41] from rfl] at hS7 ⊢
          have hgx7 := keepNode_atB (D := fun _ => True) hS6 hU7 _ _ _ trivial hgx6
          have hgr7 := keepNode_atB (D := fun _ => True) hS6 hU7 _ _ _ trivial hgr6
          have hR7 := hR6.keep (keepNode_atB hS6 hU7)
          have hU7' := hU6.trans hU7.sp
          clear hgx6 hgr6 hgx5 hgr5 hgx4 hgr4 hgx2 hgr2 hR6 hR5 hU7 hU6 hU5 hU4 hU2 hU1 hU1'
          cases hp : Lib.hasPrefix st2.left [92, 41] with
          | false =>
            go_wp2_with (go_at_call 14; refine (must_false _).mono ?_; rintro e w' ⟨rfl, rfl⟩)
            have hG : groupS (fun s => rowS n s .nil) st = none := by simp only [groupS, nodeS, if_pos hg, if_pos hm, hq, hp, Bool.false_eq_true, if_false]
            rw [hG]
            exact ⟨rfl, rfl, hU7'⟩
          | true =>
            rw [trimPrefix_yes hp] at hS7
            have ho7 : st2.opn = st.opn ++ [st.g + 1] := hM.o
            obtain ⟨s7, ov7, hs7, hP7, hO7⟩ := hS7
            simp only at hs7 hP7 hO7
            rw [ho7] at hO7
            obtain ⟨a7, c7, rfl⟩ := own_slice hO7
            rw [List.length_append, List.length_singleton] at hP7
            unfold OpenAt at hO7
            rw [List.length_append, List.length_singleton] at hO7
            obtain ⟨hO8, hc7, g7, rfl⟩ := own_pop hO7
            rw [map_dropLast_snoc] at hO8
            have hb7 := hP7.lt
            have hgz7 := lt_of_heap hgx7
            have hgy7 := lt_of_heap hgr7
            obtain ⟨-, -, -, -, j5⟩ := hP7.cells
            obtain ⟨-, -, -, -, -, l5⟩ := hP7.free
            go_wp2_with (go_at_call 14; refine (must_true _).mono ?_; rintro e w' ⟨rfl, rfl⟩)
            go_region
            all_goals (
              have hP8 := hP7.setO (.slice (some ⟨g7, 0, none⟩) st.opn.length c7)
              have hO8' := OpenAt.setP (show OpenAt _ b _ st.opn from hO8) 5 (.slice (some ⟨g7, 0, none⟩) st.opn.length c7)
              have hgx8 := (hq_set (v := .slice (some ⟨g7, 0, none⟩) st.opn.length c7) (show w1.heap.size ≠ (⟨b, 5, none⟩ : Addr).block by simp only; omega)).trans hgx7
              have hgr8 := (hq_set (v := .slice (some ⟨g7, 0, none⟩) st.opn.length c7) (show w.heap.size ≠ (⟨b, 5, none⟩ : Addr).block by simp only; omega)).trans hgr7
              have hR8 := hR7.keep (w' := World.setCell _ ⟨b, 5, none⟩ (.slice (some ⟨g7, 0, none⟩) st.opn.length c7)) (Keep.setCell _ _ fun k hk _ => by simp only; omega)
              have hU8 := hU7'.setCell ⟨b, 5, none⟩ (.slice (some ⟨g7, 0, none⟩) st.opn.length c7) fun _ => .inl rfl
              clear hP7 hO7 hO8 hR7 hgx7 hgr7 hU7' j5 l5
              generalize World.setCell _ ⟨b, 5, none⟩ (.slice (some ⟨g7, 0, none⟩) st.opn.length c7) = w8 at *
              go_wp2_with (first | ((with_reducible apply ldNode); (focus rfl); (focus ((try simp (disch := (first | (simp only [sz_alloc, sz_set, sz_row, sz_drew, sz_drewN] <;> omega) | omega)) only [hq_eq, hq_ne, hq_set, hq_row, hq_drew, hq_drewN]) <;> (first | rfl | assumption))); (focus (first | assumption | exact ndA_size _ _ _ _ _ _ _))) | ((with_reducible apply stNode); (focus rfl); (focus rfl); (focus ((try simp (disch := (first | (simp only [sz_alloc, sz_set, sz_row, sz_drew, sz_drewN] <;> omega) | omega)) only [hq_eq, hq_ne, hq_set, hq_row, hq_drew, hq_drewN]) <;> (first | rfl | assumption))); (focus (first | assumption | exact ndA_size _ _ _ _ _ _ _)); (focus (first | assumption | exact ndA_size _ _ _ _ _ _ _)); (focus (first | assumption | exact ndA_one _ _ _ _ _ _ _ rfl))))
              refine retNode rfl rfl rfl (setRow_heap _ _ _ _ _ _ (by (focus ((try simp (disch := (first | (simp only [sz_alloc, sz_set, sz_row, sz_drew, sz_drewN] <;> omega) | omega)) only [hq_eq, hq_ne, hq_set, hq_row, hq_drew, hq_drewN]) <;> (first | rfl | assumption))))) (ndA_size _ _ _ _ _ _ _) ?_
              have hG : groupS (fun s => rowS n s .nil) st = some ((⟨7, 0, noS, st.g + 1, 0, 0⟩, kids), { st2 with left := st2.left.drop 2, opn := st.opn }) := by
                simp only [groupS, nodeS, if_pos hg, if_pos hm, hq, if_pos hp, ho7, List.dropLast_concat]
              rw [hG]
              refine ⟨_, rfl, ((Rep.keep (w' := w8.drew) hR8 fun _ _ _ _ h => h).keep (Keep.setRow _ _ fun k hk _ => ?_)).mono fun k hk _ => Or.inr ?_, ⟨_, _, hs7, hP8.drew.setRow _ ?_, hO8'.keep (Keep.setRowT hgr8 (by decide) _)⟩, hU8.drew.setRow _ _ fun h => absurd h ?_⟩
              all_goals omega))
    · go_enter Tryd.func35, Tryd.ntmps35
      go_wp2_with (go_at_call 14; refine (must_true _).mono ?_; rintro e w' ⟨rfl, rfl⟩)
      refine (node_no _ b { st with g := st.g + 1 } _ ⟨s, ov, hs, (hP.setG _).alloc _, (hO.setP _ _).keep (Keep.alloc _)⟩ h0 h1 (by simp only; omega)).mono ?_
      rintro e w1 ⟨rfl, hU1⟩
      go_wp2_with fail
      have hG : groupS (fun s => rowS n s .nil) st = none := by simp only [groupS, nodeS, if_pos hg, if_neg (show ¬ st.m + 1 ≤ 200 by omega)]
      rw [hG]
      exact ⟨rfl, rfl, ((((Upd.refl _ _).setCell _ _ fun _ => rfl).alloc _).trans hU1).sp⟩
  · have hd : decide (st.g + 1 ≤ 9) = false := by simpa using hg
    go_enter Tryd.func35, Tryd.ntmps35
    go_wp2_with (go_at_call 14; refine (must_false _).mono ?_; rintro e w' ⟨rfl, rfl⟩)
    have hG : groupS (fun s => rowS n s .nil) st = none := by simp only [groupS, if_neg (show ¬ st.g + 1 ≤ 9 by omega)]
    rw [hG]
    exact ⟨rfl, rfl, (((Upd.refl _ _).setCell _ _ fun _ => rfl).alloc _).sp⟩
end Go.Proofs.YtkbfckigndkkkaaDoor
