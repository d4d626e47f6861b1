/-
  Walks: the parts of a pattern.
-/
import Derived.Test.YtkbfckigndkkkaaDoorBw4
namespace Go.Proofs.YtkbfckigndkkkaaDoor
set_option linter.unusedSimpArgs false
set_option linter.unusedVariables false
open Go Go.RowKit

theorem byte_ne {c k : UInt8} (h : c ≠ k) : ((c.toNat : Int) == (k.toNat : Int)) = false := by
  rw [beq_eq_false_iff_ne]; intro e; exact h (UInt8.toNat_inj.1 (by omega))
set_option maxRecDepth 100000 in set_option maxHeartbeats 4000000 in
theorem part_slash (n : Nat) (hrow : RowSaid n) (w : World) (b : Nat) (st : PSt) (t : List UInt8) (first begun : Bool) (hE : Env w) (h4 : 4 ≤ b) (g0 : 0 ≤ st.g) (g9 : st.g ≤ 9) (ho : st.opn.length ≤ st.g) (hlt : t.length ≤ n) (hl2 : t.length ≤ 1000) (hl0 : st.left = 92 :: t) (hS : StW w b st) (h0 : 0 ≤ st.m) (h1 : st.m ≤ 200) :
    Calls Tryd.prog 18 #[.pointer (some ⟨b, 0, none⟩), .bool first, .bool begun] w (OutN b (fun _ => False) w (slashS (fun s => rowS n s .nil) { st with left := t })) := by
  obtain ⟨s, ov, hs, hP, hO⟩ := hS
  have hb := hP.lt
  obtain ⟨c0, -, -, -, -⟩ := hP.cells
  obtain ⟨f0, -, -, -, -, -⟩ := hP.free
  have hlen : s.size = t.length + 1 := by rw [bytes_len, hs, hl0]; rfl
  have hpos : 0 < s.size := by omega
  have H0 := first_byte (hs.trans hl0) hpos
  have d0 := byte_fact (hs.trans hl0) hpos 92 (v := true) rfl
  have HG := Lib.hid hl0
  have HS := Lib.hid hs
  have HL := Lib.hid hlen
  clear hs hlen hl0
  go_enter Tryd.func18, Tryd.ntmps18
  go_wp2_with fail
  have HU : Upd (SP b) w ((w.setCell ⟨b, 0, none⟩ (.string (s.extract 1 s.size))).alloc (.cells (ndA 0 0 noS 0 0 0 (.slice none 0 0)) 41)) := ((Upd.refl (SP b) w).setCell _ _ fun _ => .inl rfl).alloc _
  have HS0 : StW ((w.setCell ⟨b, 0, none⟩ (.string (s.extract 1 s.size))).alloc (.cells (ndA 0 0 noS 0 0 0 (.slice none 0 0)) 41)) b { st with left := t } :=
    ⟨_, ov, by rw [bytes_extract, HS.out, HG.out]; rfl, (hP.setLeft (s.extract 1 s.size)).alloc _, (hO.setP 0 (.string (s.extract 1 s.size))).keep (Keep.alloc _)⟩
  have HGR : ((w.setCell ⟨b, 0, none⟩ (.string (s.extract 1 s.size))).alloc (.cells (ndA 0 0 noS 0 0 0 (.slice none 0 0)) 41)).heap[w.heap.size]? = some (.cells (ndA 0 0 noS 0 0 0 (.slice none 0 0)) 41 (0, 0)) := hq_eq (sz_set _ _ _).symm
  have HLT : w.heap.size < ((w.setCell ⟨b, 0, none⟩ (.string (s.extract 1 s.size))).alloc (.cells (ndA 0 0 noS 0 0 0 (.slice none 0 0)) 41)).heap.size := by rw [sz_alloc, sz_set]; omega
  generalize (w.setCell ⟨b, 0, none⟩ (.string (s.extract 1 s.size))).alloc (.cells (ndA 0 0 noS 0 0 0 (.slice none 0 0)) 41) = w0 at *
  refine (slash_any n hrow _ b { st with left := t } HS0 (hE.sp HU h4 hb) h4 h0 h1 g0 g9 ho hlt hl2).mono ?_
  cases hq : slashS (fun s => rowS n s .nil) { st with left := t } with
  | none => (rintro e w1 ⟨rfl, hU1⟩; go_wp2_with fail; rw [hq]; exact ⟨rfl, rfl, HU.trans hU1⟩)
  | some r => (obtain ⟨⟨h, k⟩, st'⟩ := r; rintro e w1 ⟨kv, rfl, hR1, hS1, hU1⟩; have hgr1 := keepNode_st (D := fun _ => True) HS0 hU1 _ _ _ trivial HGR; have hN1 := ndA_one h.kind h.byte h.set h.n h.mn h.mx kv hR1.one; unfold ndH; go_wp2_with ((with_reducible apply stNode); (focus rfl); (focus rfl); (focus ((try simp (disch := (first | (simp only [sz_alloc, sz_set, sz_row, sz_drew, sz_drewN] <;> omega) | omega)) only [hq_eq, hq_ne, hq_set, hq_row, hq_drew, hq_drewN]) <;> (first | rfl | assumption))); (focus (first | assumption | exact ndA_size _ _ _ _ _ _ _)); (focus (first | assumption | exact ndA_size _ _ _ _ _ _ _)); (focus (first | assumption | exact ndA_one _ _ _ _ _ _ _ rfl))); refine retNode rfl rfl rfl (setRow_heap _ _ _ _ _ _ hgr1) (ndA_size _ _ _ _ _ _ _) ?_; rw [hq]; exact outN_tail HU hgr1 (Nat.le_refl _) HLT hR1 hS1 hU1 hb)

set_option maxRecDepth 100000 in set_option maxHeartbeats 4000000 in
theorem part_any_ (w : World) (b : Nat) (st : PSt) (t : List UInt8) (first begun : Bool) (hl0 : st.left = 46 :: t) (hS : StW w b st) (h0 : 0 ≤ st.m) (h1 : st.m ≤ 200) :
    Calls Tryd.prog 18 #[.pointer (some ⟨b, 0, none⟩), .bool first, .bool begun] w (OutN b (fun _ => False) w (mkS { st with left := t } ⟨2, 0, noS, 0, 0, 0⟩ .nil)) := by
  obtain ⟨s, ov, hs, hP, hO⟩ := hS
  have hb := hP.lt
  obtain ⟨c0, -, -, -, -⟩ := hP.cells
  obtain ⟨f0, -, -, -, -, -⟩ := hP.free
  have hlen : s.size = t.length + 1 := by rw [bytes_len, hs, hl0]; rfl
  have hpos : 0 < s.size := by omega
  have H0 := first_byte (hs.trans hl0) hpos
  have d0 := byte_fact (hs.trans hl0) hpos 92 (v := false) rfl
  have d1 := byte_fact (hs.trans hl0) hpos 91 (v := false) rfl
  have d2 := byte_fact (hs.trans hl0) hpos 46 (v := true) rfl
  have HG := Lib.hid hl0
  have HS := Lib.hid hs
  have HL := Lib.hid hlen
  clear hs hlen hl0
  go_enter Tryd.func18, Tryd.ntmps18
  go_wp2_with fail
  have HU : Upd (SP b) w ((w.setCell ⟨b, 0, none⟩ (.string (s.extract 1 s.size))).alloc (.cells (ndA 0 0 noS 0 0 0 (.slice none 0 0)) 41)) := ((Upd.refl (SP b) w).setCell _ _ fun _ => .inl rfl).alloc _
  have HS0 : StW ((w.setCell ⟨b, 0, none⟩ (.string (s.extract 1 s.size))).alloc (.cells (ndA 0 0 noS 0 0 0 (.slice none 0 0)) 41)) b { st with left := t } :=
    ⟨_, ov, by rw [bytes_extract, HS.out, HG.out]; rfl, (hP.setLeft (s.extract 1 s.size)).alloc _, (hO.setP 0 (.string (s.extract 1 s.size))).keep (Keep.alloc _)⟩
  have HGR : ((w.setCell ⟨b, 0, none⟩ (.string (s.extract 1 s.size))).alloc (.cells (ndA 0 0 noS 0 0 0 (.slice none 0 0)) 41)).heap[w.heap.size]? = some (.cells (ndA 0 0 noS 0 0 0 (.slice none 0 0)) 41 (0, 0)) := hq_eq (sz_set _ _ _).symm
  have HLT : w.heap.size < ((w.setCell ⟨b, 0, none⟩ (.string (s.extract 1 s.size))).alloc (.cells (ndA 0 0 noS 0 0 0 (.slice none 0 0)) 41)).heap.size := by rw [sz_alloc, sz_set]; omega
  generalize (w.setCell ⟨b, 0, none⟩ (.string (s.extract 1 s.size))).alloc (.cells (ndA 0 0 noS 0 0 0 (.slice none 0 0)) 41) = w0 at *
  refine (node_any _ b { st with left := t } ⟨2, 0, noS, 0, 0, 0⟩ (.slice none 0 0) .nil (fun _ => False) HS0 h0 h1 (Rep.nilSlice _ _ _)).mono ?_
  cases hq : mkS { st with left := t } ⟨2, 0, noS, 0, 0, 0⟩ .nil with
  | none => (rintro e w1 ⟨rfl, hU1⟩; go_wp2_with fail; rw [hq]; exact ⟨rfl, rfl, HU.trans hU1⟩)
  | some r => (obtain ⟨⟨h, k⟩, st'⟩ := r; rintro e w1 ⟨kv, rfl, hR1, hS1, hU1⟩; have hgr1 := keepNode_st (D := fun _ => True) HS0 hU1 _ _ _ trivial HGR; have hN1 := ndA_one h.kind h.byte h.set h.n h.mn h.mx kv hR1.one; unfold ndH; go_wp2_with ((with_reducible apply stNode); (focus rfl); (focus rfl); (focus ((try simp (disch := (first | (simp only [sz_alloc, sz_set, sz_row, sz_drew, sz_drewN] <;> omega) | omega)) only [hq_eq, hq_ne, hq_set, hq_row, hq_drew, hq_drewN]) <;> (first | rfl | assumption))); (focus (first | assumption | exact ndA_size _ _ _ _ _ _ _)); (focus (first | assumption | exact ndA_size _ _ _ _ _ _ _)); (focus (first | assumption | exact ndA_one _ _ _ _ _ _ _ rfl))); refine retNode rfl rfl rfl (setRow_heap _ _ _ _ _ _ hgr1) (ndA_size _ _ _ _ _ _ _) ?_; rw [hq]; exact outN_tail HU hgr1 (Nat.le_refl _) HLT hR1 hS1 hU1 hb)

set_option maxRecDepth 100000 in set_option maxHeartbeats 4000000 in
theorem part_begin (w : World) (b : Nat) (st : PSt) (t : List UInt8) (begun : Bool) (hl0 : st.left = 94 :: t) (hS : StW w b st) (h0 : 0 ≤ st.m) (h1 : st.m ≤ 200) :
    Calls Tryd.prog 18 #[.pointer (some ⟨b, 0, none⟩), .bool true, .bool begun] w (OutN b (fun _ => False) w (mkS { st with left := t } ⟨4, 0, noS, 0, 0, 0⟩ .nil)) := by
  obtain ⟨s, ov, hs, hP, hO⟩ := hS
  have hb := hP.lt
  obtain ⟨c0, -, -, -, -⟩ := hP.cells
  obtain ⟨f0, -, -, -, -, -⟩ := hP.free
  have hlen : s.size = t.length + 1 := by rw [bytes_len, hs, hl0]; rfl
  have hpos : 0 < s.size := by omega
  have H0 := first_byte (hs.trans hl0) hpos
  have d0 := byte_fact (hs.trans hl0) hpos 92 (v := false) rfl
  have d1 := byte_fact (hs.trans hl0) hpos 91 (v := false) rfl
  have d2 := byte_fact (hs.trans hl0) hpos 46 (v := false) rfl
  have d3 := byte_fact (hs.trans hl0) hpos 94 (v := true) rfl
  have HG := Lib.hid hl0
  have HS := Lib.hid hs
  have HL := Lib.hid hlen
  clear hs hlen hl0
  go_enter Tryd.func18, Tryd.ntmps18
  go_wp2_with fail
  have HU : Upd (SP b) w ((w.setCell ⟨b, 0, none⟩ (.string (s.extract 1 s.size))).alloc (.cells (ndA 0 0 noS 0 0 0 (.slice none 0 0)) 41)) := ((Upd.refl (SP b) w).setCell _ _ fun _ => .inl rfl).alloc _
  have HS0 : StW ((w.setCell ⟨b, 0, none⟩ (.string (s.extract 1 s.size))).alloc (.cells (ndA 0 0 noS 0 0 0 (.slice none 0 0)) 41)) b { st with left := t } :=
    ⟨_, ov, by rw [bytes_extract, HS.out, HG.out]; rfl, (hP.setLeft (s.extract 1 s.size)).alloc _, (hO.setP 0 (.string (s.extract 1 s.size))).keep (Keep.alloc _)⟩
  have HGR : ((w.setCell ⟨b, 0, none⟩ (.string (s.extract 1 s.size))).alloc (.cells (ndA 0 0 noS 0 0 0 (.slice none 0 0)) 41)).heap[w.heap.size]? = some (.cells (ndA 0 0 noS 0 0 0 (.slice none 0 0)) 41 (0, 0)) := hq_eq (sz_set _ _ _).symm
  have HLT : w.heap.size < ((w.setCell ⟨b, 0, none⟩ (.string (s.extract 1 s.size))).alloc (.cells (ndA 0 0 noS 0 0 0 (.slice none 0 0)) 41)).heap.size := by rw [sz_alloc, sz_set]; omega
  generalize (w.setCell ⟨b, 0, none⟩ (.string (s.extract 1 s.size))).alloc (.cells (ndA 0 0 noS 0 0 0 (.slice none 0 0)) 41) = w0 at *
  refine (node_any _ b { st with left := t } ⟨4, 0, noS, 0, 0, 0⟩ (.slice none 0 0) .nil (fun _ => False) HS0 h0 h1 (Rep.nilSlice _ _ _)).mono ?_
  cases hq : mkS { st with left := t } ⟨4, 0, noS, 0, 0, 0⟩ .nil with
  | none => (rintro e w1 ⟨rfl, hU1⟩; go_wp2_with fail; rw [hq]; exact ⟨rfl, rfl, HU.trans hU1⟩)
  | some r => (obtain ⟨⟨h, k⟩, st'⟩ := r; rintro e w1 ⟨kv, rfl, hR1, hS1, hU1⟩; have hgr1 := keepNode_st (D := fun _ => True) HS0 hU1 _ _ _ trivial HGR; have hN1 := ndA_one h.kind h.byte h.set h.n h.mn h.mx kv hR1.one; unfold ndH; go_wp2_with ((with_reducible apply stNode); (focus rfl); (focus rfl); (focus ((try simp (disch := (first | (simp only [sz_alloc, sz_set, sz_row, sz_drew, sz_drewN] <;> omega) | omega)) only [hq_eq, hq_ne, hq_set, hq_row, hq_drew, hq_drewN]) <;> (first | rfl | assumption))); (focus (first | assumption | exact ndA_size _ _ _ _ _ _ _)); (focus (first | assumption | exact ndA_size _ _ _ _ _ _ _)); (focus (first | assumption | exact ndA_one _ _ _ _ _ _ _ rfl))); refine retNode rfl rfl rfl (setRow_heap _ _ _ _ _ _ hgr1) (ndA_size _ _ _ _ _ _ _) ?_; rw [hq]; exact outN_tail HU hgr1 (Nat.le_refl _) HLT hR1 hS1 hU1 hb)

set_option maxRecDepth 100000 in set_option maxHeartbeats 4000000 in
theorem part_caret (w : World) (b : Nat) (st : PSt) (t : List UInt8) (begun : Bool) (hl0 : st.left = 94 :: t) (hS : StW w b st) (h0 : 0 ≤ st.m) (h1 : st.m ≤ 200) :
    Calls Tryd.prog 18 #[.pointer (some ⟨b, 0, none⟩), .bool false, .bool begun] w (OutN b (fun _ => False) w (mkS { st with left := t } ⟨1, 94, noS, 0, 0, 0⟩ .nil)) := by
  obtain ⟨s, ov, hs, hP, hO⟩ := hS
  have hb := hP.lt
  obtain ⟨c0, -, -, -, -⟩ := hP.cells
  obtain ⟨f0, -, -, -, -, -⟩ := hP.free
  have hlen : s.size = t.length + 1 := by rw [bytes_len, hs, hl0]; rfl
  have hpos : 0 < s.size := by omega
  have H0 := first_byte (hs.trans hl0) hpos
  have d0 := byte_fact (hs.trans hl0) hpos 92 (v := false) rfl
  have d1 := byte_fact (hs.trans hl0) hpos 91 (v := false) rfl
  have d2 := byte_fact (hs.trans hl0) hpos 46 (v := false) rfl
  have d3 := byte_fact (hs.trans hl0) hpos 94 (v := true) rfl
  have HG := Lib.hid hl0
  have HS := Lib.hid hs
  have HL := Lib.hid hlen
  clear hs hlen hl0
  go_enter Tryd.func18, Tryd.ntmps18
  go_wp2_with fail
  have HU : Upd (SP b) w (w.alloc (.cells (ndA 0 0 noS 0 0 0 (.slice none 0 0)) 41)) := (Upd.refl (SP b) w).alloc _
  have HS0 : StW (w.alloc (.cells (ndA 0 0 noS 0 0 0 (.slice none 0 0)) 41)) b st := StW.alloc ⟨s, ov, HS.out, hP, hO⟩ _
  have HGR : (w.alloc (.cells (ndA 0 0 noS 0 0 0 (.slice none 0 0)) 41)).heap[w.heap.size]? = some (.cells (ndA 0 0 noS 0 0 0 (.slice none 0 0)) 41 (0, 0)) := hq_eq rfl
  have HLT : w.heap.size < (w.alloc (.cells (ndA 0 0 noS 0 0 0 (.slice none 0 0)) 41)).heap.size := by rw [sz_alloc]; omega
  generalize w.alloc (.cells (ndA 0 0 noS 0 0 0 (.slice none 0 0)) 41) = w0 at *
  refine (self_any _ b st 94 t (fun _ => False) HS0 HG.out h0 h1).mono ?_
  cases hq : mkS { st with left := t } ⟨1, 94, noS, 0, 0, 0⟩ .nil with
  | none => (rintro e w1 ⟨rfl, hU1⟩; go_wp2_with fail; rw [hq]; exact ⟨rfl, rfl, HU.trans hU1⟩)
  | some r => (obtain ⟨⟨h, k⟩, st'⟩ := r; rintro e w1 ⟨kv, rfl, hR1, hS1, hU1⟩; have hgr1 := keepNode_st (D := fun _ => True) HS0 hU1 _ _ _ trivial HGR; have hN1 := ndA_one h.kind h.byte h.set h.n h.mn h.mx kv hR1.one; unfold ndH; go_wp2_with ((with_reducible apply stNode); (focus rfl); (focus rfl); (focus ((try simp (disch := (first | (simp only [sz_alloc, sz_set, sz_row, sz_drew, sz_drewN] <;> omega) | omega)) only [hq_eq, hq_ne, hq_set, hq_row, hq_drew, hq_drewN]) <;> (first | rfl | assumption))); (focus (first | assumption | exact ndA_size _ _ _ _ _ _ _)); (focus (first | assumption | exact ndA_size _ _ _ _ _ _ _)); (focus (first | assumption | exact ndA_one _ _ _ _ _ _ _ rfl))); refine retNode rfl rfl rfl (setRow_heap _ _ _ _ _ _ hgr1) (ndA_size _ _ _ _ _ _ _) ?_; rw [hq]; exact outN_tail HU hgr1 (Nat.le_refl _) HLT hR1 hS1 hU1 hb)

set_option maxRecDepth 100000 in set_option maxHeartbeats 4000000 in
theorem part_star (w : World) (b : Nat) (st : PSt) (t : List UInt8) (first begun : Bool) (hfb : first = true ∨ begun = true) (hl0 : st.left = 42 :: t) (hS : StW w b st) (h0 : 0 ≤ st.m) (h1 : st.m ≤ 200) :
    Calls Tryd.prog 18 #[.pointer (some ⟨b, 0, none⟩), .bool first, .bool begun] w (OutN b (fun _ => False) w (mkS { st with left := t } ⟨1, 42, noS, 0, 0, 0⟩ .nil)) := by
  obtain ⟨s, ov, hs, hP, hO⟩ := hS
  have hb := hP.lt
  obtain ⟨c0, -, -, -, -⟩ := hP.cells
  obtain ⟨f0, -, -, -, -, -⟩ := hP.free
  have hlen : s.size = t.length + 1 := by rw [bytes_len, hs, hl0]; rfl
  have hpos : 0 < s.size := by omega
  have H0 := first_byte (hs.trans hl0) hpos
  have d0 := byte_fact (hs.trans hl0) hpos 92 (v := false) rfl
  have d1 := byte_fact (hs.trans hl0) hpos 91 (v := false) rfl
  have d2 := byte_fact (hs.trans hl0) hpos 46 (v := false) rfl
  have d3 := byte_fact (hs.trans hl0) hpos 94 (v := false) rfl
  have d4 := byte_fact (hs.trans hl0) hpos 36 (v := false) rfl
  have d5 := byte_fact (hs.trans hl0) hpos 42 (v := true) rfl
  have HG := Lib.hid hl0
  have HS := Lib.hid hs
  have HL := Lib.hid hlen
  clear hs hlen hl0
  go_enter Tryd.func18, Tryd.ntmps18
  rcases hfb with rfl | rfl
  all_goals (try cases first)
  all_goals go_wp2_with (go_at_call 14; refine (must_true _).mono ?_; rintro e w' ⟨rfl, rfl⟩)
  all_goals (
    have HU : Upd (SP b) w (w.alloc (.cells (ndA 0 0 noS 0 0 0 (.slice none 0 0)) 41)) := (Upd.refl (SP b) w).alloc _
    have HS0 : StW (w.alloc (.cells (ndA 0 0 noS 0 0 0 (.slice none 0 0)) 41)) b st := StW.alloc ⟨s, ov, HS.out, hP, hO⟩ _
    have HGR : (w.alloc (.cells (ndA 0 0 noS 0 0 0 (.slice none 0 0)) 41)).heap[w.heap.size]? = some (.cells (ndA 0 0 noS 0 0 0 (.slice none 0 0)) 41 (0, 0)) := hq_eq rfl
    have HLT : w.heap.size < (w.alloc (.cells (ndA 0 0 noS 0 0 0 (.slice none 0 0)) 41)).heap.size := by rw [sz_alloc]; omega
    generalize w.alloc (.cells (ndA 0 0 noS 0 0 0 (.slice none 0 0)) 41) = w0 at *
    refine (self_any _ b st 42 t (fun _ => False) HS0 HG.out h0 h1).mono ?_
    cases hq : mkS { st with left := t } ⟨1, 42, noS, 0, 0, 0⟩ .nil with
    | none => (rintro e w1 ⟨rfl, hU1⟩; go_wp2_with fail; rw [hq]; exact ⟨rfl, rfl, HU.trans hU1⟩)
    | some r => (obtain ⟨⟨h, k⟩, st'⟩ := r; rintro e w1 ⟨kv, rfl, hR1, hS1, hU1⟩; have hgr1 := keepNode_st (D := fun _ => True) HS0 hU1 _ _ _ trivial HGR; have hN1 := ndA_one h.kind h.byte h.set h.n h.mn h.mx kv hR1.one; unfold ndH; go_wp2_with ((with_reducible apply stNode); (focus rfl); (focus rfl); (focus ((try simp (disch := (first | (simp only [sz_alloc, sz_set, sz_row, sz_drew, sz_drewN] <;> omega) | omega)) only [hq_eq, hq_ne, hq_set, hq_row, hq_drew, hq_drewN]) <;> (first | rfl | assumption))); (focus (first | assumption | exact ndA_size _ _ _ _ _ _ _)); (focus (first | assumption | exact ndA_size _ _ _ _ _ _ _)); (focus (first | assumption | exact ndA_one _ _ _ _ _ _ _ rfl))); refine retNode rfl rfl rfl (setRow_heap _ _ _ _ _ _ hgr1) (ndA_size _ _ _ _ _ _ _) ?_; rw [hq]; exact outN_tail HU hgr1 (Nat.le_refl _) HLT hR1 hS1 hU1 hb))

set_option maxRecDepth 100000 in set_option maxHeartbeats 4000000 in
theorem part_self (w : World) (b : Nat) (st : PSt) (c : UInt8) (t : List UInt8) (first begun : Bool) (hc0 : c ≠ 92) (hc1 : c ≠ 91) (hc2 : c ≠ 46) (hc3 : c ≠ 94) (hc4 : c ≠ 36) (hc5 : c ≠ 42) (hl0 : st.left = c :: t) (hS : StW w b st) (h0 : 0 ≤ st.m) (h1 : st.m ≤ 200) :
    Calls Tryd.prog 18 #[.pointer (some ⟨b, 0, none⟩), .bool first, .bool begun] w (OutN b (fun _ => False) w (mkS { st with left := t } ⟨1, c, noS, 0, 0, 0⟩ .nil)) := by
  obtain ⟨s, ov, hs, hP, hO⟩ := hS
  have hb := hP.lt
  obtain ⟨c0, -, -, -, -⟩ := hP.cells
  obtain ⟨f0, -, -, -, -, -⟩ := hP.free
  have hlen : s.size = t.length + 1 := by rw [bytes_len, hs, hl0]; rfl
  have hpos : 0 < s.size := by omega
  have H0 := first_byte (hs.trans hl0) hpos
  have d0 : ((c.toNat : Int) == 92) = false := byte_ne hc0
  have d1 : ((c.toNat : Int) == 91) = false := byte_ne hc1
  have d2 : ((c.toNat : Int) == 46) = false := byte_ne hc2
  have d3 : ((c.toNat : Int) == 94) = false := byte_ne hc3
  have d4 : ((c.toNat : Int) == 36) = false := byte_ne hc4
  have d5 : ((c.toNat : Int) == 42) = false := byte_ne hc5
  have HG := Lib.hid hl0
  have HS := Lib.hid hs
  have HL := Lib.hid hlen
  clear hs hlen hl0
  go_enter Tryd.func18, Tryd.ntmps18
  go_wp2_with fail
  have HU : Upd (SP b) w (w.alloc (.cells (ndA 0 0 noS 0 0 0 (.slice none 0 0)) 41)) := (Upd.refl (SP b) w).alloc _
  have HS0 : StW (w.alloc (.cells (ndA 0 0 noS 0 0 0 (.slice none 0 0)) 41)) b st := StW.alloc ⟨s, ov, HS.out, hP, hO⟩ _
  have HGR : (w.alloc (.cells (ndA 0 0 noS 0 0 0 (.slice none 0 0)) 41)).heap[w.heap.size]? = some (.cells (ndA 0 0 noS 0 0 0 (.slice none 0 0)) 41 (0, 0)) := hq_eq rfl
  have HLT : w.heap.size < (w.alloc (.cells (ndA 0 0 noS 0 0 0 (.slice none 0 0)) 41)).heap.size := by rw [sz_alloc]; omega
  generalize w.alloc (.cells (ndA 0 0 noS 0 0 0 (.slice none 0 0)) 41) = w0 at *
  refine (self_any _ b st c t (fun _ => False) HS0 HG.out h0 h1).mono ?_
  cases hq : mkS { st with left := t } ⟨1, c, noS, 0, 0, 0⟩ .nil with
  | none => (rintro e w1 ⟨rfl, hU1⟩; go_wp2_with fail; rw [hq]; exact ⟨rfl, rfl, HU.trans hU1⟩)
  | some r => (obtain ⟨⟨h, k⟩, st'⟩ := r; rintro e w1 ⟨kv, rfl, hR1, hS1, hU1⟩; have hgr1 := keepNode_st (D := fun _ => True) HS0 hU1 _ _ _ trivial HGR; have hN1 := ndA_one h.kind h.byte h.set h.n h.mn h.mx kv hR1.one; unfold ndH; go_wp2_with ((with_reducible apply stNode); (focus rfl); (focus rfl); (focus ((try simp (disch := (first | (simp only [sz_alloc, sz_set, sz_row, sz_drew, sz_drewN] <;> omega) | omega)) only [hq_eq, hq_ne, hq_set, hq_row, hq_drew, hq_drewN]) <;> (first | rfl | assumption))); (focus (first | assumption | exact ndA_size _ _ _ _ _ _ _)); (focus (first | assumption | exact ndA_size _ _ _ _ _ _ _)); (focus (first | assumption | exact ndA_one _ _ _ _ _ _ _ rfl))); refine retNode rfl rfl rfl (setRow_heap _ _ _ _ _ _ hgr1) (ndA_size _ _ _ _ _ _ _) ?_; rw [hq]; exact outN_tail HU hgr1 (Nat.le_refl _) HLT hR1 hS1 hU1 hb)

set_option maxRecDepth 100000 in set_option maxHeartbeats 4000000 in
theorem part_end_nil (w : World) (b : Nat) (st : PSt) (t : List UInt8) (first begun : Bool) (ht : t = []) (hl0 : st.left = 36 :: t) (hS : StW w b st) (h0 : 0 ≤ st.m) (h1 : st.m ≤ 200) :
    Calls Tryd.prog 18 #[.pointer (some ⟨b, 0, none⟩), .bool first, .bool begun] w (OutN b (fun _ => False) w (mkS { st with left := t } ⟨5, 0, noS, 0, 0, 0⟩ .nil)) := by
  obtain ⟨s, ov, hs, hP, hO⟩ := hS
  have hb := hP.lt
  obtain ⟨c0, -, -, -, -⟩ := hP.cells
  obtain ⟨f0, -, -, -, -, -⟩ := hP.free
  have hlen : s.size = t.length + 1 := by rw [bytes_len, hs, hl0]; rfl
  have hpos : 0 < s.size := by omega
  have H0 := first_byte (hs.trans hl0) hpos
  have d0 := byte_fact (hs.trans hl0) hpos 92 (v := false) rfl
  have d1 := byte_fact (hs.trans hl0) hpos 91 (v := false) rfl
  have d2 := byte_fact (hs.trans hl0) hpos 46 (v := false) rfl
  have d3 := byte_fact (hs.trans hl0) hpos 94 (v := false) rfl
  have d4 := byte_fact (hs.trans hl0) hpos 36 (v := true) rfl
  have e0 : (s.extract 1 s.size).toList.isEmpty = true := by rw [bytes_toList, bytes_extract, hs, hl0, ht]; rfl
  have HG := Lib.hid hl0
  have HS := Lib.hid hs
  have HL := Lib.hid hlen
  clear hs hlen hl0
  go_enter Tryd.func18, Tryd.ntmps18
  go_wp2_with fail
  have HU : Upd (SP b) w ((w.setCell ⟨b, 0, none⟩ (.string (s.extract 1 s.size))).alloc (.cells (ndA 0 0 noS 0 0 0 (.slice none 0 0)) 41)) := ((Upd.refl (SP b) w).setCell _ _ fun _ => .inl rfl).alloc _
  have HS0 : StW ((w.setCell ⟨b, 0, none⟩ (.string (s.extract 1 s.size))).alloc (.cells (ndA 0 0 noS 0 0 0 (.slice none 0 0)) 41)) b { st with left := t } :=
    ⟨_, ov, by rw [bytes_extract, HS.out, HG.out]; rfl, (hP.setLeft (s.extract 1 s.size)).alloc _, (hO.setP 0 (.string (s.extract 1 s.size))).keep (Keep.alloc _)⟩
  have HGR : ((w.setCell ⟨b, 0, none⟩ (.string (s.extract 1 s.size))).alloc (.cells (ndA 0 0 noS 0 0 0 (.slice none 0 0)) 41)).heap[w.heap.size]? = some (.cells (ndA 0 0 noS 0 0 0 (.slice none 0 0)) 41 (0, 0)) := hq_eq (sz_set _ _ _).symm
  have HLT : w.heap.size < ((w.setCell ⟨b, 0, none⟩ (.string (s.extract 1 s.size))).alloc (.cells (ndA 0 0 noS 0 0 0 (.slice none 0 0)) 41)).heap.size := by rw [sz_alloc, sz_set]; omega
  generalize (w.setCell ⟨b, 0, none⟩ (.string (s.extract 1 s.size))).alloc (.cells (ndA 0 0 noS 0 0 0 (.slice none 0 0)) 41) = w0 at *
  refine (node_any _ b { st with left := t } ⟨5, 0, noS, 0, 0, 0⟩ (.slice none 0 0) .nil (fun _ => False) HS0 h0 h1 (Rep.nilSlice _ _ _)).mono ?_
  cases hq : mkS { st with left := t } ⟨5, 0, noS, 0, 0, 0⟩ .nil with
  | none => (rintro e w1 ⟨rfl, hU1⟩; go_wp2_with fail; rw [hq]; exact ⟨rfl, rfl, HU.trans hU1⟩)
  | some r => (obtain ⟨⟨h, k⟩, st'⟩ := r; rintro e w1 ⟨kv, rfl, hR1, hS1, hU1⟩; have hgr1 := keepNode_st (D := fun _ => True) HS0 hU1 _ _ _ trivial HGR; have hN1 := ndA_one h.kind h.byte h.set h.n h.mn h.mx kv hR1.one; unfold ndH; go_wp2_with ((with_reducible apply stNode); (focus rfl); (focus rfl); (focus ((try simp (disch := (first | (simp only [sz_alloc, sz_set, sz_row, sz_drew, sz_drewN] <;> omega) | omega)) only [hq_eq, hq_ne, hq_set, hq_row, hq_drew, hq_drewN]) <;> (first | rfl | assumption))); (focus (first | assumption | exact ndA_size _ _ _ _ _ _ _)); (focus (first | assumption | exact ndA_size _ _ _ _ _ _ _)); (focus (first | assumption | exact ndA_one _ _ _ _ _ _ _ rfl))); refine retNode rfl rfl rfl (setRow_heap _ _ _ _ _ _ hgr1) (ndA_size _ _ _ _ _ _ _) ?_; rw [hq]; exact outN_tail HU hgr1 (Nat.le_refl _) HLT hR1 hS1 hU1 hb)

set_option maxRecDepth 100000 in set_option maxHeartbeats 4000000 in
theorem part_end_close (w : World) (b : Nat) (st : PSt) (t : List UInt8) (first begun : Bool) (ht : t ≠ []) (ht2 : Lib.hasPrefix t [92, 41] = true) (hl0 : st.left = 36 :: t) (hS : StW w b st) (h0 : 0 ≤ st.m) (h1 : st.m ≤ 200) :
    Calls Tryd.prog 18 #[.pointer (some ⟨b, 0, none⟩), .bool first, .bool begun] w (OutN b (fun _ => False) w (mkS { st with left := t } ⟨5, 0, noS, 0, 0, 0⟩ .nil)) := by
  obtain ⟨s, ov, hs, hP, hO⟩ := hS
  have hb := hP.lt
  obtain ⟨c0, -, -, -, -⟩ := hP.cells
  obtain ⟨f0, -, -, -, -, -⟩ := hP.free
  have hlen : s.size = t.length + 1 := by rw [bytes_len, hs, hl0]; rfl
  have hpos : 0 < s.size := by omega
  have H0 := first_byte (hs.trans hl0) hpos
  have d0 := byte_fact (hs.trans hl0) hpos 92 (v := false) rfl
  have d1 := byte_fact (hs.trans hl0) hpos 91 (v := false) rfl
  have d2 := byte_fact (hs.trans hl0) hpos 46 (v := false) rfl
  have d3 := byte_fact (hs.trans hl0) hpos 94 (v := false) rfl
  have d4 := byte_fact (hs.trans hl0) hpos 36 (v := true) rfl
  have e0 : (s.extract 1 s.size).toList.isEmpty = false := by rw [bytes_toList, bytes_extract, hs, hl0]; cases t with | nil => exact absurd rfl ht | cons _ _ => rfl
  have e1 : Lib.hasPrefix (s.extract 1 s.size).data.toList (⟨#[92, 41]⟩ : ByteArray).data.toList = true := by rw [bytes_extract, hs, hl0]; exact ht2
  have HG := Lib.hid hl0
  have HS := Lib.hid hs
  have HL := Lib.hid hlen
  clear hs hlen hl0
  go_enter Tryd.func18, Tryd.ntmps18
  go_wp2_with (go_at_call 17; refine (Tryd.strings_HasPrefix _ _ _).mono ?_; rintro e w' ⟨rfl, rfl⟩; rw [e1])
  have HU : Upd (SP b) w ((w.setCell ⟨b, 0, none⟩ (.string (s.extract 1 s.size))).alloc (.cells (ndA 0 0 noS 0 0 0 (.slice none 0 0)) 41)) := ((Upd.refl (SP b) w).setCell _ _ fun _ => .inl rfl).alloc _
  have HS0 : StW ((w.setCell ⟨b, 0, none⟩ (.string (s.extract 1 s.size))).alloc (.cells (ndA 0 0 noS 0 0 0 (.slice none 0 0)) 41)) b { st with left := t } :=
    ⟨_, ov, by rw [bytes_extract, HS.out, HG.out]; rfl, (hP.setLeft (s.extract 1 s.size)).alloc _, (hO.setP 0 (.string (s.extract 1 s.size))).keep (Keep.alloc _)⟩
  have HGR : ((w.setCell ⟨b, 0, none⟩ (.string (s.extract 1 s.size))).alloc (.cells (ndA 0 0 noS 0 0 0 (.slice none 0 0)) 41)).heap[w.heap.size]? = some (.cells (ndA 0 0 noS 0 0 0 (.slice none 0 0)) 41 (0, 0)) := hq_eq (sz_set _ _ _).symm
  have HLT : w.heap.size < ((w.setCell ⟨b, 0, none⟩ (.string (s.extract 1 s.size))).alloc (.cells (ndA 0 0 noS 0 0 0 (.slice none 0 0)) 41)).heap.size := by rw [sz_alloc, sz_set]; omega
  generalize (w.setCell ⟨b, 0, none⟩ (.string (s.extract 1 s.size))).alloc (.cells (ndA 0 0 noS 0 0 0 (.slice none 0 0)) 41) = w0 at *
  refine (node_any _ b { st with left := t } ⟨5, 0, noS, 0, 0, 0⟩ (.slice none 0 0) .nil (fun _ => False) HS0 h0 h1 (Rep.nilSlice _ _ _)).mono ?_
  cases hq : mkS { st with left := t } ⟨5, 0, noS, 0, 0, 0⟩ .nil with
  | none => (rintro e w1 ⟨rfl, hU1⟩; go_wp2_with fail; rw [hq]; exact ⟨rfl, rfl, HU.trans hU1⟩)
  | some r => (obtain ⟨⟨h, k⟩, st'⟩ := r; rintro e w1 ⟨kv, rfl, hR1, hS1, hU1⟩; have hgr1 := keepNode_st (D := fun _ => True) HS0 hU1 _ _ _ trivial HGR; have hN1 := ndA_one h.kind h.byte h.set h.n h.mn h.mx kv hR1.one; unfold ndH; go_wp2_with ((with_reducible apply stNode); (focus rfl); (focus rfl); (focus ((try simp (disch := (first | (simp only [sz_alloc, sz_set, sz_row, sz_drew, sz_drewN] <;> omega) | omega)) only [hq_eq, hq_ne, hq_set, hq_row, hq_drew, hq_drewN]) <;> (first | rfl | assumption))); (focus (first | assumption | exact ndA_size _ _ _ _ _ _ _)); (focus (first | assumption | exact ndA_size _ _ _ _ _ _ _)); (focus (first | assumption | exact ndA_one _ _ _ _ _ _ _ rfl))); refine retNode rfl rfl rfl (setRow_heap _ _ _ _ _ _ hgr1) (ndA_size _ _ _ _ _ _ _) ?_; rw [hq]; exact outN_tail HU hgr1 (Nat.le_refl _) HLT hR1 hS1 hU1 hb)

set_option maxRecDepth 100000 in set_option maxHeartbeats 4000000 in
theorem part_end_not (w : World) (b : Nat) (st : PSt) (t : List UInt8) (first begun : Bool) (ht : t ≠ []) (ht2 : Lib.hasPrefix t [92, 41] = false) (hl0 : st.left = 36 :: t) (hS : StW w b st) (h0 : 0 ≤ st.m) (h1 : st.m ≤ 200) :
    Calls Tryd.prog 18 #[.pointer (some ⟨b, 0, none⟩), .bool first, .bool begun] w (OutN b (fun _ => False) w (mkS { st with left := t } ⟨1, 36, noS, 0, 0, 0⟩ .nil)) := by
  obtain ⟨s, ov, hs, hP, hO⟩ := hS
  have hb := hP.lt
  obtain ⟨c0, -, -, -, -⟩ := hP.cells
  obtain ⟨f0, -, -, -, -, -⟩ := hP.free
  have hlen : s.size = t.length + 1 := by rw [bytes_len, hs, hl0]; rfl
  have hpos : 0 < s.size := by omega
  have H0 := first_byte (hs.trans hl0) hpos
  have d0 := byte_fact (hs.trans hl0) hpos 92 (v := false) rfl
  have d1 := byte_fact (hs.trans hl0) hpos 91 (v := false) rfl
  have d2 := byte_fact (hs.trans hl0) hpos 46 (v := false) rfl
  have d3 := byte_fact (hs.trans hl0) hpos 94 (v := false) rfl
  have d4 := byte_fact (hs.trans hl0) hpos 36 (v := true) rfl
  have e0 : (s.extract 1 s.size).toList.isEmpty = false := by rw [bytes_toList, bytes_extract, hs, hl0]; cases t with | nil => exact absurd rfl ht | cons _ _ => rfl
  have e1 : Lib.hasPrefix (s.extract 1 s.size).data.toList (⟨#[92, 41]⟩ : ByteArray).data.toList = false := by rw [bytes_extract, hs, hl0]; exact ht2
  have HG := Lib.hid hl0
  have HS := Lib.hid hs
  have HL := Lib.hid hlen
  clear hs hlen hl0
  go_enter Tryd.func18, Tryd.ntmps18
  go_wp2_with (go_at_call 17; refine (Tryd.strings_HasPrefix _ _ _).mono ?_; rintro e w' ⟨rfl, rfl⟩; rw [e1])
  have HU : Upd (SP b) w (w.alloc (.cells (ndA 0 0 noS 0 0 0 (.slice none 0 0)) 41)) := (Upd.refl (SP b) w).alloc _
  have HS0 : StW (w.alloc (.cells (ndA 0 0 noS 0 0 0 (.slice none 0 0)) 41)) b st := StW.alloc ⟨s, ov, HS.out, hP, hO⟩ _
  have HGR : (w.alloc (.cells (ndA 0 0 noS 0 0 0 (.slice none 0 0)) 41)).heap[w.heap.size]? = some (.cells (ndA 0 0 noS 0 0 0 (.slice none 0 0)) 41 (0, 0)) := hq_eq rfl
  have HLT : w.heap.size < (w.alloc (.cells (ndA 0 0 noS 0 0 0 (.slice none 0 0)) 41)).heap.size := by rw [sz_alloc]; omega
  generalize w.alloc (.cells (ndA 0 0 noS 0 0 0 (.slice none 0 0)) 41) = w0 at *
  refine (self_any _ b st 36 t (fun _ => False) HS0 HG.out h0 h1).mono ?_
  cases hq : mkS { st with left := t } ⟨1, 36, noS, 0, 0, 0⟩ .nil with
  | none => (rintro e w1 ⟨rfl, hU1⟩; go_wp2_with fail; rw [hq]; exact ⟨rfl, rfl, HU.trans hU1⟩)
  | some r => (obtain ⟨⟨h, k⟩, st'⟩ := r; rintro e w1 ⟨kv, rfl, hR1, hS1, hU1⟩; have hgr1 := keepNode_st (D := fun _ => True) HS0 hU1 _ _ _ trivial HGR; have hN1 := ndA_one h.kind h.byte h.set h.n h.mn h.mx kv hR1.one; unfold ndH; go_wp2_with ((with_reducible apply stNode); (focus rfl); (focus rfl); (focus ((try simp (disch := (first | (simp only [sz_alloc, sz_set, sz_row, sz_drew, sz_drewN] <;> omega) | omega)) only [hq_eq, hq_ne, hq_set, hq_row, hq_drew, hq_drewN]) <;> (first | rfl | assumption))); (focus (first | assumption | exact ndA_size _ _ _ _ _ _ _)); (focus (first | assumption | exact ndA_size _ _ _ _ _ _ _)); (focus (first | assumption | exact ndA_one _ _ _ _ _ _ _ rfl))); refine retNode rfl rfl rfl (setRow_heap _ _ _ _ _ _ hgr1) (ndA_size _ _ _ _ _ _ _) ?_; rw [hq]; exact outN_tail HU hgr1 (Nat.le_refl _) HLT hR1 hS1 hU1 hb)

set_option maxRecDepth 100000 in set_option maxHeartbeats 4000000 in
theorem part_star_no (w : World) (b : Nat) (st : PSt) (t : List UInt8) (hl0 : st.left = 42 :: t) (hS : StW w b st) :
    Calls Tryd.prog 18 #[.pointer (some ⟨b, 0, none⟩), .bool false, .bool false] w (OutN b (fun _ => False) w none) := by
  obtain ⟨s, ov, hs, hP, hO⟩ := hS
  have hb := hP.lt
  obtain ⟨c0, -, -, -, -⟩ := hP.cells
  have hlen : s.size = t.length + 1 := by rw [bytes_len, hs, hl0]; rfl
  have hpos : 0 < s.size := by omega
  have H0 := first_byte (hs.trans hl0) hpos
  clear hs hlen hl0
  go_enter Tryd.func18, Tryd.ntmps18
  go_wp2_with (go_at_call 14; refine (must_false _).mono ?_; rintro e w' ⟨rfl, rfl⟩)
  exact ⟨rfl, rfl, (Upd.refl _ _).alloc _⟩
end Go.Proofs.YtkbfckigndkkkaaDoor

/-
  Walks: a part in brackets, and any part.
-/
namespace Go.Proofs.YtkbfckigndkkkaaDoor
set_option linter.unusedSimpArgs false
set_option linter.unusedVariables false
open Go Go.RowKit

theorem fold_off (o : Nat) : ∀ (xs : List Value) (k : Nat) (cs : Array Value) (i : Nat), o + k + xs.length ≤ cs.size →
    ((xs.zipIdx k).foldl (fun (cs : Array Value) (x : Value × Nat) => cs.setIfInBounds (o + x.2) x.1) cs)[i]? = if o + k ≤ i ∧ i < o + k + xs.length then xs[i - (o + k)]? else cs[i]?
  | [], k, cs, i, _ => by simp; omega
  | x :: xs, k, cs, i, h => by
    simp only [List.zipIdx_cons, List.foldl_cons]
    rw [fold_off o xs (k + 1) (cs.setIfInBounds (o + k) x) i (by simp only [Array.size_setIfInBounds, List.length_cons] at h ⊢; omega)]
    simp only [List.length_cons] at h ⊢
    by_cases hk : i = o + k
    · subst hk
      rw [if_neg (by omega), if_pos (by omega), Array.getElem?_setIfInBounds_self_of_lt (by omega)]
      simp
    · rw [Array.getElem?_setIfInBounds_ne (Ne.symm hk)]
      by_cases h2 : o + k ≤ i ∧ i < o + k + (xs.length + 1)
      · rw [if_pos (by omega), if_pos h2]
        obtain ⟨d, rfl⟩ : ∃ d, i = o + k + 1 + d := ⟨i - (o + k + 1), by omega⟩
        rw [show o + k + 1 + d - (o + (k + 1)) = d by omega, show o + k + 1 + d - (o + k) = d + 1 by omega]
        rfl
      · rw [if_neg (by omega), if_neg h2]
/-- A node built with its set. -/
theorem build_set (k : Int) (c : UInt8) (f0 f : UInt8 → Bool) (n mn mx : Int) (kv : Value) :
    Array.foldl (fun (cs : Array Value) (x : Value × Nat) => cs.setIfInBounds (2 + x.2) x.1) (ndA k c f0 n mn mx kv) (setA f).zipIdx 0 256 = ndA k c f n mn mx kv := by
  have hz : (setA f).zipIdx.size = 256 := by simp
  rw [show (256 : Nat) = (setA f).zipIdx.size from hz.symm]
  apply Array.ext_getElem?
  intro i
  rw [← Array.foldl_toList, Array.toList_zipIdx, fold_off 2 (setA f).toList 0 _ i (by simp [setA, setL_length])]
  have hl : (setA f).toList.length = 256 := by simp
  rw [hl]
  by_cases h : 2 + 0 ≤ i ∧ i < 2 + 0 + 256
  · rw [if_pos h]
    obtain ⟨j, rfl⟩ : ∃ j, i = j + 2 := ⟨i - 2, by omega⟩
    rw [ndA_getSet _ _ _ _ _ _ _ _ (by omega), show j + 2 - (2 + 0) = j by omega]
    exact setL_get f j (by omega)
  · rw [if_neg h]
    rcases Nat.lt_or_ge i 2 with h2 | h2
    · match i, h2 with
      | 0, _ => rw [ndA_get0, ndA_get0]
      | 1, _ => rw [ndA_get1, ndA_get1]
    · rw [ndA_getHi _ _ _ _ _ _ _ _ (by omega), ndA_getHi _ _ _ _ _ _ _ _ (by omega)]

@[go_sem ↓] theorem zeroSetB (w : World) : (zeroValue 39).run Tryd.prog w = .ok (.agg (setA noS)) w := by kernel_rfl
theorem infoSet : (Tryd.prog.info? 39).map (·.size) = some 256 := by kernel_rfl
theorem cutCol_suf : ∀ (l x y : List UInt8), cutCol l = some (x, y) → y <:+ l := by
  intro l
  induction l with
  | nil => intro x y h; simp [cutCol] at h
  | cons a l ih =>
    intro x y h
    cases l with
    | nil => simp [cutCol] at h
    | cons b t =>
      simp only [cutCol] at h
      split at h
      · cases h; exact (List.suffix_cons b y).trans (List.suffix_cons a _)
      · cases hq : cutCol (b :: t) with
        | none => rw [hq] at h; cases h
        | some p =>
          rw [hq] at h
          obtain ⟨p1, p2⟩ := p
          cases h
          exact (ih _ _ hq).trans (List.suffix_cons _ _)
theorem clsPart_suf {s : List UInt8} {f : UInt8 → Bool} {r : List UInt8} (hp : clsPart s = some (f, r)) : r <:+ s := by
  unfold clsPart at hp
  split at hp
  · cases hp
  · rename_i a t
    split at hp
    · split at hp
      · cases hp
      · rename_i nm rs hc
        have := cutCol_suf _ _ _ hc
        cases hcl : clsOf nm with
        | none => rw [hcl] at hp; cases hp
        | some f0 =>
          rw [hcl] at hp
          cases hp
          exact this.trans (List.drop_suffix _ _)
    · split at hp
      · cases hp
      · split at hp
        · split at hp
          · split at hp
            · cases hp; exact (List.suffix_cons _ _).trans ((List.suffix_cons _ _).trans (List.suffix_cons _ _))
            · cases hp
          · cases hp; exact List.suffix_cons _ _
        · cases hp; exact List.suffix_cons _ _
theorem clsLoop_suf : ∀ (n : Nat) (s : List UInt8) (f : Bool) (acc : UInt8 → Bool) (g : UInt8 → Bool) (r : List UInt8), clsLoop n s f acc = some (g, r) → r <:+ s
  | 0, _, _, _, _, _, h => by simp [clsLoop] at h
  | n + 1, s, f, acc, g, r, h => by
    unfold clsLoop at h
    split at h
    · cases h; exact List.suffix_refl _
    · split at h
      · cases h
      · rename_i f' rest hp
        exact (clsLoop_suf n rest false _ g r h).trans (clsPart_suf hp)
theorem clsParse_suf {s : List UInt8} {f : UInt8 → Bool} {r : List UInt8} (h : clsParse s = some (f, r)) : r <:+ s := by
  unfold clsParse at h
  split at h
  · rename_i t
    split at h
    · cases h
    · rename_i f' rest hl
      cases h
      have h1 := clsLoop_suf _ _ _ _ _ _ hl
      have h2 : (Lib.trimPrefix t [94]) <:+ t := by
        unfold Lib.trimPrefix; split
        · exact List.drop_suffix _ _
        · exact List.suffix_refl _
      exact (List.drop_suffix 1 rest).trans (h1.trans (h2.trans (List.suffix_cons _ _)))
  · cases h
theorem ldSet {ops : Array Oper} {rest : List Oper} {dst : Option Tmp} {ty : TypeId} {pos : String} {after : Array Edge} {a : Act} {w : World} {Q : Exit → Act → World → Prop}
    {x : Operand} {g : Nat} {cs : Array Value} {t : TypeId} {fr : Nat × Nat} (hx : a.eval x = .pointer (some ⟨g, 0, none⟩)) (hg : w.heap[g]? = some (.cells cs t fr)) (hn : cs.size = 256)
    (h : wpList Tryd.prog ops Q rest (a.put dst (.agg cs)) w) : wpList Tryd.prog ops Q (⟨dst, .load 39 x, ty, pos, after, none⟩ :: rest) a w :=
  ldRow Tryd.underlying39 rfl infoSet hx hg hn h
theorem stSet {ops : Array Oper} {rest : List Oper} {ty : TypeId} {pos : String} {after : Array Edge} {a : Act} {w : World} {Q : Exit → Act → World → Prop}
    {x y : Operand} {g : Nat} {cs old : Array Value} {t : TypeId} (hx : a.eval x = .pointer (some ⟨g, 0, none⟩)) (hy : a.eval y = .agg cs) (hg : w.heap[g]? = some (.cells old t (0, 0)))
    (ho : old.size = 256) (hn : cs.size = 256) (h1 : cs.all (·.oneCell') = true)
    (h : wpList Tryd.prog ops Q rest a (w.setRow g cs)) : wpList Tryd.prog ops Q (⟨none, .store 39 x y, ty, pos, after, none⟩ :: rest) a w :=
  stRow infoSet hx hy hg ho hn h1 h

def setS (st : PSt) : Option ((Hd × Fo) × PSt) := match clsParse st.left with
  | none => none
  | some (f, rest) => mkS { st with left := rest } ⟨3, 0, f, 0, 0, 0⟩ .nil

set_option maxRecDepth 100000 in set_option maxHeartbeats 4000000 in
theorem part_set (hcls : ClsSaid) (w : World) (b : Nat) (st : PSt) (t : List UInt8) (first begun : Bool) (hl0 : st.left = 91 :: t) (hS : StW w b st) (hE : Env w) (h4 : 4 ≤ b) (h0 : 0 ≤ st.m) (h1 : st.m ≤ 200) (hl2 : st.left.length ≤ 1000) :
    Calls Tryd.prog 18 #[.pointer (some ⟨b, 0, none⟩), .bool first, .bool begun] w (OutN b (fun _ => False) w (setS st)) := by
  obtain ⟨s, ov, hs, hP, hO⟩ := hS
  have hb := hP.lt
  obtain ⟨c0, -, -, -, -⟩ := hP.cells
  have hlen : s.size = t.length + 1 := by rw [bytes_len, hs, hl0]; rfl
  have hpos : 0 < s.size := by omega
  have H0 := first_byte (hs.trans hl0) hpos
  have hsz : s.size ≤ 1000 := by rw [bytes_len, hs]; exact hl2
  have HG := Lib.hid hl0
  have HS := Lib.hid hs
  have HL := Lib.hid hlen
  clear hs hlen hl0
  go_enter Tryd.func18, Tryd.ntmps18
  go_wp2_with fail
  have hU0 : Upd (SP b) w (w.alloc (.cells (ndA 0 0 noS 0 0 0 (.slice none 0 0)) 41)) := (Upd.refl _ _).alloc _
  have hgr0 : (w.alloc (.cells (ndA 0 0 noS 0 0 0 (.slice none 0 0)) 41)).heap[w.heap.size]? = some (.cells (ndA 0 0 noS 0 0 0 (.slice none 0 0)) 41 (0, 0)) := hq_eq rfl
  have hlt0 : w.heap.size < (w.alloc (.cells (ndA 0 0 noS 0 0 0 (.slice none 0 0)) 41)).heap.size := by rw [sz_alloc]; omega
  have hP0 : PW (w.alloc (.cells (ndA 0 0 noS 0 0 0 (.slice none 0 0)) 41)) b s st.g st.m st.r ov := hP.alloc _
  have hO0 : OpenAt (w.alloc (.cells (ndA 0 0 noS 0 0 0 (.slice none 0 0)) 41)) b ov st.opn := hO.keep (Keep.alloc _)
  generalize w.alloc (.cells (ndA 0 0 noS 0 0 0 (.slice none 0 0)) 41) = w0 at *
  refine (hcls _ s (hE.sp (b := b) hU0 h4 hb) (by omega) hsz).mono ?_
  rw [HS.out]
  cases hq : clsParse st.left with
  | none =>
    rintro e w1 ⟨⟨f, rfl⟩, hB1⟩
    go_wp2_with (first
      | (go_at_call 14; refine (must_false _).mono ?_; rintro e w' ⟨rfl, rfl⟩)
      | ((with_reducible apply stSet); (focus rfl); (focus rfl); (focus ((try simp (disch := (first | (simp only [sz_alloc, sz_set, sz_row, sz_drew, sz_drewN] <;> omega) | omega)) only [hq_eq, hq_ne, hq_set, hq_row, hq_drew, hq_drewN]) <;> (first | rfl | assumption))); (focus (first | assumption | exact setA_size _)); (focus (first | assumption | exact setA_size _)); (focus (first | assumption | exact setA_one _))))
    rw [setS, hq]
    refine ⟨rfl, rfl, (((hU0.thenBelow hB1 (Nat.le_of_lt hlt0)).alloc _).setRow _ _ fun h => absurd h ?_)⟩
    have := hB1.size
    omega
  | some r =>
    obtain ⟨f, rest⟩ := r
    rintro e w1 ⟨rfl, hB1⟩
    have hU1 := hU0.thenBelow hB1 (Nat.le_of_lt hlt0)
    have hP1 := hP0.below hB1
    have hO1 := hO0.keep (Keep.ofBelow hB1)
    have hgr1 := Keep.ofBelow (D := fun _ => True) hB1 _ _ _ trivial hgr0
    have hsz1 := hB1.size
    have hsuf := clsParse_suf hq
    obtain ⟨pre, hpre⟩ := hsuf
    have hrl : rest.length ≤ s.size := by rw [bytes_len, HS.out, ← hpre]; simp
    have hn1 : (0 : Int) ≤ (s.size : Int) - rest.length := by omega
    have hn2 : ((s.size : Int) - rest.length) ≤ s.size := by omega
    go_wp2_with (first
      | (go_at_call 14; refine (must_true _).mono ?_; rintro e w' ⟨rfl, rfl⟩)
      | ((with_reducible apply stSet); (focus rfl); (focus rfl); (focus ((try simp (disch := (first | (simp only [sz_alloc, sz_set, sz_row, sz_drew, sz_drewN] <;> omega) | omega)) only [hq_eq, hq_ne, hq_set, hq_row, hq_drew, hq_drewN]) <;> (first | rfl | assumption))); (focus (first | assumption | exact setA_size _)); (focus (first | assumption | exact setA_size _)); (focus (first | assumption | exact setA_one _));
         (have hP2 := (hP1.alloc (.cells (setA noS) 39)).setRow (k := w1.heap.size) (setA f) (by omega); have hgs2 : ((w1.alloc (.cells (setA noS) 39)).setRow w1.heap.size (setA f)).heap[w1.heap.size]? = some (.cells (setA f) 39 (0, 0)) := setRow_heap _ _ _ _ _ _ (hq_eq (o := .cells (setA noS) 39) rfl); have k0 := hP2.cells.1; have k1 := hP2.free.1; have hb2 := hP2.lt))
      | ((with_reducible apply ldSet); (focus rfl); (focus ((try simp (disch := (first | (simp only [sz_alloc, sz_set, sz_row, sz_drew, sz_drewN] <;> omega) | omega)) only [hq_eq, hq_ne, hq_set, hq_row, hq_drew, hq_drewN]) <;> (first | rfl | assumption))); (focus (first | assumption | exact setA_size _))))
    rw [build_set]
    have hO2 := (hO1.keep (Keep.alloc (.cells (setA noS) 39))).keep (w' := (w1.alloc (.cells (setA noS) 39)).setRow w1.heap.size (setA f)) (Keep.setRowT (hq_eq (o := .cells (setA noS) 39) rfl) (by decide) _)
    have hgr2 : ((w1.alloc (.cells (setA noS) 39)).setRow w1.heap.size (setA f)).heap[w.heap.size]? = some (.cells (ndA 0 0 noS 0 0 0 (.slice none 0 0)) 41 (0, 0)) := (hq_row (by omega)).trans ((heap_alloc_lt (by omega)).trans hgr1)
    have hU2 := (hU1.alloc (.cells (setA noS) 39)).setRow w1.heap.size (setA f) fun h => absurd h (by omega)
    clear hgs2
    have hsz2 : ((w1.alloc (.cells (setA noS) 39)).setRow w1.heap.size (setA f)).heap.size = w1.heap.size + 1 := by rw [sz_row, sz_alloc]
    generalize (w1.alloc (.cells (setA noS) 39)).setRow w1.heap.size (setA f) = w2 at *
    have HU : Upd (SP b) w (w2.setCell ⟨b, 0, none⟩ (.string (s.extract (s.size - rest.length) s.size))) := hU2.setCell _ _ fun _ => .inl rfl
    have HS0 : StW (w2.setCell ⟨b, 0, none⟩ (.string (s.extract (s.size - rest.length) s.size))) b { st with left := rest } :=
      ⟨_, ov, by rw [bytes_extract, HS.out, ← hpre, bytes_len, HS.out, ← hpre]; simp, hP2.setLeft _, hO2.setP _ _⟩
    have HGR : (w2.setCell ⟨b, 0, none⟩ (.string (s.extract (s.size - rest.length) s.size))).heap[w.heap.size]? = some (.cells (ndA 0 0 noS 0 0 0 (.slice none 0 0)) 41 (0, 0)) := (hq_set (by simp only; omega)).trans hgr2
    have HLT : w.heap.size < (w2.setCell ⟨b, 0, none⟩ (.string (s.extract (s.size - rest.length) s.size))).heap.size := by rw [sz_set]; omega
    generalize w2.setCell ⟨b, 0, none⟩ (.string (s.extract (s.size - rest.length) s.size)) = w3 at *
    have hX : setS st = mkS { st with left := rest } ⟨3, 0, f, 0, 0, 0⟩ .nil := by rw [setS, hq]
    refine (node_any _ b { st with left := rest } ⟨3, 0, f, 0, 0, 0⟩ (.slice none 0 0) .nil (fun _ => False) HS0 h0 h1 (Rep.nilSlice _ _ _)).mono ?_
    cases hq : mkS { st with left := rest } ⟨3, 0, f, 0, 0, 0⟩ .nil with
    | none => (rintro e w1 ⟨rfl, hU1⟩; go_wp2_with fail; rw [hX.trans hq]; exact ⟨rfl, rfl, HU.trans hU1⟩)
    | some r => (obtain ⟨⟨h, k⟩, st'⟩ := r; rintro e w1 ⟨kv, rfl, hR1, hS1, hU1⟩; have hgr1 := keepNode_st (D := fun _ => True) HS0 hU1 _ _ _ trivial HGR; have hN1 := ndA_one h.kind h.byte h.set h.n h.mn h.mx kv hR1.one; unfold ndH; go_wp2_with ((with_reducible apply stNode); (focus rfl); (focus rfl); (focus ((try simp (disch := (first | (simp only [sz_alloc, sz_set, sz_row, sz_drew, sz_drewN] <;> omega) | omega)) only [hq_eq, hq_ne, hq_set, hq_row, hq_drew, hq_drewN]) <;> (first | rfl | assumption))); (focus (first | assumption | exact ndA_size _ _ _ _ _ _ _)); (focus (first | assumption | exact ndA_size _ _ _ _ _ _ _)); (focus (first | assumption | exact ndA_one _ _ _ _ _ _ _ rfl))); refine retNode rfl rfl rfl (setRow_heap _ _ _ _ _ _ hgr1) (ndA_size _ _ _ _ _ _ _) ?_; rw [hX.trans hq]; exact outN_tail HU hgr1 (Nat.le_refl _) HLT hR1 hS1 hU1 hb)

theorem part_any (n : Nat) (hrow : RowSaid n) (hcls : ClsSaid) (w : World) (b : Nat) (st : PSt) (c : UInt8) (t : List UInt8) (first begun : Bool) (hl0 : st.left = c :: t) (hS : StW w b st) (hE : Env w) (h4 : 4 ≤ b) (h0 : 0 ≤ st.m) (h1 : st.m ≤ 200) (g0 : 0 ≤ st.g) (g9 : st.g ≤ 9)
    (ho : st.opn.length ≤ st.g) (hl : st.left.length ≤ n + 1) (hl2 : st.left.length ≤ 1000) :
    Calls Tryd.prog 18 #[.pointer (some ⟨b, 0, none⟩), .bool first, .bool begun] w (OutN b (fun _ => False) w (partS (fun s => rowS n s .nil) st first begun)) := by
  have hlt : t.length ≤ n := by rw [hl0] at hl; simp at hl; exact hl
  have hlt2 : t.length ≤ 1000 := by rw [hl0] at hl2; simp at hl2; omega
  by_cases e0 : c = 92
  · subst e0
    have := part_slash n hrow w b st t first begun hE h4 g0 g9 ho hlt hlt2 hl0 hS h0 h1
    rwa [show partS (fun s => rowS n s .nil) st first begun = slashS (fun s => rowS n s .nil) { st with left := t } by simp only [partS, hl0, if_true]]
  by_cases e1 : c = 91
  · subst e1
    have := part_set hcls w b st t first begun hl0 hS hE h4 h0 h1 hl2
    rwa [show partS (fun s => rowS n s .nil) st first begun = setS st by simp only [partS, setS, hl0, if_neg e0, if_true]; rfl]
  by_cases e2 : c = 46
  · subst e2
    have := part_any_ w b st t first begun hl0 hS h0 h1
    rwa [show partS (fun s => rowS n s .nil) st first begun = mkS { st with left := t } ⟨2, 0, noS, 0, 0, 0⟩ .nil by simp [partS, hl0]]
  by_cases e3 : c = 94
  · subst e3
    cases first
    · have := part_caret w b st t begun hl0 hS h0 h1
      rwa [show partS (fun s => rowS n s .nil) st false begun = mkS { st with left := t } ⟨1, 94, noS, 0, 0, 0⟩ .nil by simp [partS, hl0]]
    · have := part_begin w b st t begun hl0 hS h0 h1
      rwa [show partS (fun s => rowS n s .nil) st true begun = mkS { st with left := t } ⟨4, 0, noS, 0, 0, 0⟩ .nil by simp [partS, hl0]]
  by_cases e4 : c = 36
  · subst e4
    by_cases ht : t = []
    · have := part_end_nil w b st t first begun ht hl0 hS h0 h1
      rwa [show partS (fun s => rowS n s .nil) st first begun = mkS { st with left := t } ⟨5, 0, noS, 0, 0, 0⟩ .nil by simp [partS, hl0, ht]]
    · cases hp : Lib.hasPrefix t [92, 41] with
      | true =>
        have := part_end_close w b st t first begun ht hp hl0 hS h0 h1
        rwa [show partS (fun s => rowS n s .nil) st first begun = mkS { st with left := t } ⟨5, 0, noS, 0, 0, 0⟩ .nil by simp [partS, hl0, hp]]
      | false =>
        have := part_end_not w b st t first begun ht hp hl0 hS h0 h1
        rwa [show partS (fun s => rowS n s .nil) st first begun = mkS { st with left := t } ⟨1, 36, noS, 0, 0, 0⟩ .nil by simp [partS, hl0, ht, hp]]
  by_cases e5 : c = 42
  · subst e5
    by_cases hf : first = true ∨ begun = true
    · have := part_star w b st t first begun hf hl0 hS h0 h1
      rwa [show partS (fun s => rowS n s .nil) st first begun = mkS { st with left := t } ⟨1, 42, noS, 0, 0, 0⟩ .nil by rcases hf with rfl | rfl <;> simp [partS, hl0]]
    · cases first <;> cases begun <;> simp at hf
      have := part_star_no w b st t hl0 hS
      rwa [show partS (fun s => rowS n s .nil) st false false = none by simp [partS, hl0]]
  have := part_self w b st c t first begun e0 e1 e2 e3 e4 e5 hl0 hS h0 h1
  rwa [show partS (fun s => rowS n s .nil) st first begun = mkS { st with left := t } ⟨1, c, noS, 0, 0, 0⟩ .nil by
    simp only [partS, hl0, if_neg e0, if_neg e1, if_neg e2, if_neg (show ¬ (c = 94 ∧ first = true) from fun h => e3 h.1), if_neg (show ¬ (c = 36 ∧ (t = [] ∨ Lib.hasPrefix t [92, 41] = true)) from fun h => e4 h.1), if_neg (show ¬ (c = 42 ∧ first = false ∧ begun = false) from fun h => e5 h.1)]]
end Go.Proofs.YtkbfckigndkkkaaDoor
