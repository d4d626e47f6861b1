/-
  Walks: the parts of a pattern behind a backslash.
-/
import Derived.Test.YtkbfckigndkkkaaDoorBw3
namespace Go.Proofs.YtkbfckigndkkkaaDoor
set_option linter.unusedSimpArgs false
set_option linter.unusedVariables false
open Go Go.RowKit

theorem outN_tail {w w0 w1 : World} {b gr : Nat} {h : Hd} {k : Fo} {st' : PSt} {kv : Value} {cs0 : Array Value} (hU : Upd (SP b) w w0) (hg : w1.heap[gr]? = some (.cells cs0 41 (0, 0)))
    (g1 : w.heap.size ≤ gr) (g2 : gr < w0.heap.size) (hR : Rep (fun j => False ∨ w0.heap.size ≤ j) 41 w1 kv k) (hS : StW w1 b st') (hU1 : Upd (SP b) w0 w1) (hb : b < w.heap.size) :
    OutN b (fun _ => False) w (some ((h, k), st')) (.returned (.agg (ndH h kv))) (w1.setRow gr (ndH h kv)) := by
  refine ⟨kv, rfl, (hR.keep (Keep.setRow _ _ fun j hj _ => ?_)).mono fun j hj _ => Or.inr ?_, ?_, (hU.trans hU1).setRow _ _ fun h => absurd h (by omega)⟩
  · rcases hj with hj | hj
    · exact hj.elim
    · omega
  · have := hU.size
    rcases hj with hj | hj
    · exact hj.elim
    · omega
  · obtain ⟨s, ov, hs, hP, hO⟩ := hS
    exact ⟨s, ov, hs, hP.setRow _ (by omega), hO.keep (Keep.setRowT hg (by decide) _)⟩

theorem byte_fact {s : ByteArray} {c : UInt8} {t : List UInt8} (h : s.data.toList = c :: t) (hp : 0 < s.size) (k : Int) {v : Bool} (hv : decide ((c.toNat : Int) = k) = v) : (((s[0]'hp).toNat : Int) == k) = v := by
  rw [first_byte h hp, ← hv]; rfl

set_option maxRecDepth 100000 in set_option maxHeartbeats 4000000 in
theorem slash_open (n : Nat) (hrow : RowSaid n) (w : World) (b : Nat) (st : PSt) (t : List UInt8) (hl0 : st.left = 40 :: t) (hS : StW w b st) (hE : Env w) (h4 : 4 ≤ b) (h0 : 0 ≤ st.m) (h1 : st.m ≤ 200) (g0 : 0 ≤ st.g) (g9 : st.g ≤ 9) (ho : st.opn.length ≤ st.g)
    (hl : st.left.length ≤ n) (hl2 : st.left.length ≤ 1000) :
    Calls Tryd.prog 25 #[.pointer (some ⟨b, 0, none⟩)] w (OutN b (fun _ => False) w (slashS (fun s => rowS n s .nil) st)) := by
  have hG : slashS (fun s => rowS n s .nil) st = groupS (fun s => rowS n s .nil) { st with left := t } := by
    simp only [slashS, hl0, if_true]
  rw [hG]
  obtain ⟨s, ov, hs, hP, hO⟩ := hS
  have hb := hP.lt
  obtain ⟨c0, c2, c3, -, c5⟩ := hP.cells
  obtain ⟨f0, -, f2, f3, -, f5⟩ := hP.free
  have hlen : s.size = t.length + 1 := by rw [bytes_len, hs, hl0]; rfl
  have hpos : 0 < s.size := by omega
  have hne : s.toList.isEmpty = false := by rw [bytes_toList, hs, hl0]; rfl
  have d1 := byte_fact (hs.trans hl0) hpos 40 (v := true) rfl
  have HS := Lib.hid hs
  have HL := Lib.hid hlen
  have HG := Lib.hid hl0
  have hl3 : t.length < n ∧ t.length ≤ 1000 := by rw [hl0] at hl hl2; exact ⟨by simp at hl; omega, by simp at hl2; omega⟩
  clear hs hlen hl0 hG
  go_enter Tryd.func25, Tryd.ntmps25
  go_wp2_with (go_at_call 14; refine (must_true _).mono ?_; rintro e w' ⟨rfl, rfl⟩)
  have HU : Upd (SP b) w ((w.setCell ⟨b, 0, none⟩ (.string (s.extract 1 s.size))).alloc (.cells (ndA 0 0 noS 0 0 0 (.slice none 0 0)) 41)) := ((Upd.refl (SP b) w).setCell _ _ fun _ => .inl rfl).alloc _
  have HS0 : StW ((w.setCell ⟨b, 0, none⟩ (.string (s.extract 1 s.size))).alloc (.cells (ndA 0 0 noS 0 0 0 (.slice none 0 0)) 41)) b { st with left := t } :=
    ⟨_, ov, by rw [bytes_extract, HS.out, HG.out]; rfl, (hP.setLeft (s.extract 1 s.size)).alloc _, (hO.setP 0 (.string (s.extract 1 s.size))).keep (Keep.alloc _)⟩
  have HGR : ((w.setCell ⟨b, 0, none⟩ (.string (s.extract 1 s.size))).alloc (.cells (ndA 0 0 noS 0 0 0 (.slice none 0 0)) 41)).heap[w.heap.size]? = some (.cells (ndA 0 0 noS 0 0 0 (.slice none 0 0)) 41 (0, 0)) := hq_eq (sz_set _ _ _).symm
  have HLT : w.heap.size < ((w.setCell ⟨b, 0, none⟩ (.string (s.extract 1 s.size))).alloc (.cells (ndA 0 0 noS 0 0 0 (.slice none 0 0)) 41)).heap.size := by rw [sz_alloc, sz_set]; omega
  generalize (w.setCell ⟨b, 0, none⟩ (.string (s.extract 1 s.size))).alloc (.cells (ndA 0 0 noS 0 0 0 (.slice none 0 0)) 41) = w0 at *
  refine (group_any n hrow _ b { st with left := t } HS0 (hE.sp HU h4 hb) h4 h0 h1 g0 g9 ho hl3.1 hl3.2).mono ?_
  cases hq : groupS (fun s => rowS n s .nil) { st with left := t } with
  | none => (rintro e w1 ⟨rfl, hU1⟩; go_wp2_with fail; rw [hq]; exact ⟨rfl, rfl, HU.trans hU1⟩)
  | some r => (obtain ⟨⟨h, k⟩, st'⟩ := r; rintro e w1 ⟨kv, rfl, hR1, hS1, hU1⟩; have hgr1 := keepNode_st (D := fun _ => True) HS0 hU1 _ _ _ trivial HGR; have hN1 := ndA_one h.kind h.byte h.set h.n h.mn h.mx kv hR1.one; unfold ndH; go_wp2_with ((with_reducible apply stNode); (focus rfl); (focus rfl); (focus ((try simp (disch := (first | (simp only [sz_alloc, sz_set, sz_row, sz_drew, sz_drewN] <;> omega) | omega)) only [hq_eq, hq_ne, hq_set, hq_row, hq_drew, hq_drewN]) <;> (first | rfl | assumption))); (focus (first | assumption | exact ndA_size _ _ _ _ _ _ _)); (focus (first | assumption | exact ndA_size _ _ _ _ _ _ _)); (focus (first | assumption | exact ndA_one _ _ _ _ _ _ _ rfl))); refine retNode rfl rfl rfl (setRow_heap _ _ _ _ _ _ hgr1) (ndA_size _ _ _ _ _ _ _) ?_; rw [hq]; exact outN_tail HU hgr1 (Nat.le_refl _) HLT hR1 hS1 hU1 hb)

set_option maxRecDepth 100000 in set_option maxHeartbeats 4000000 in
theorem slash_self (row : PSt → Option (Fo × PSt)) (w : World) (b : Nat) (st : PSt) (c : UInt8) (t : List UInt8) (hl0 : st.left = c :: t) (hc1 : c ≠ 40) (hc2 : ¬ (49 ≤ c.toNat ∧ c.toNat ≤ 57)) (hc3 : ¬ (c = 123 ∨ c = 125 ∨ c = 41)) (hS : StW w b st)
    (h0 : 0 ≤ st.m) (h1 : st.m ≤ 200) :
    Calls Tryd.prog 25 #[.pointer (some ⟨b, 0, none⟩)] w (OutN b (fun _ => False) w (slashS row st)) := by
  have hG : slashS row st = mkS { st with left := t } ⟨1, c, noS, 0, 0, 0⟩ .nil := by
    simp only [slashS, hl0, if_neg hc1, if_neg hc2, if_neg hc3]
  rw [hG]
  have hS' := hS
  obtain ⟨s, ov, hs, hP, hO⟩ := hS
  have hb := hP.lt
  obtain ⟨c0, -, -, -, -⟩ := hP.cells
  have hlen : s.size = t.length + 1 := by rw [bytes_len, hs, hl0]; rfl
  have hpos : 0 < s.size := by omega
  have hne : s.toList.isEmpty = false := by rw [bytes_toList, hs, hl0]; rfl
  have hk : ∀ k : UInt8, c ≠ k → decide ((c.toNat : Int) = (k.toNat : Int)) = false := by
    intro k hk; simp only [decide_eq_false_iff_not]; intro h; exact hk (UInt8.toNat_inj.1 (by omega))
  have hk2 : ∀ k : Int, 49 ≤ k ∧ k ≤ 57 → decide ((c.toNat : Int) = k) = false := by
    intro k hk; simp only [decide_eq_false_iff_not]; omega
  simp only [not_or] at hc3
  have d1 := byte_fact (hs.trans hl0) hpos 40 (hk 40 hc1)
  have d2 := byte_fact (hs.trans hl0) hpos 49 (hk2 49 (by decide))
  have d3 := byte_fact (hs.trans hl0) hpos 50 (hk2 50 (by decide))
  have d4 := byte_fact (hs.trans hl0) hpos 51 (hk2 51 (by decide))
  have d5 := byte_fact (hs.trans hl0) hpos 52 (hk2 52 (by decide))
  have d6 := byte_fact (hs.trans hl0) hpos 53 (hk2 53 (by decide))
  have d7 := byte_fact (hs.trans hl0) hpos 54 (hk2 54 (by decide))
  have d8 := byte_fact (hs.trans hl0) hpos 55 (hk2 55 (by decide))
  have d9 := byte_fact (hs.trans hl0) hpos 56 (hk2 56 (by decide))
  have d10 := byte_fact (hs.trans hl0) hpos 57 (hk2 57 (by decide))
  have d11 := byte_fact (hs.trans hl0) hpos 123 (hk 123 hc3.1)
  have d12 := byte_fact (hs.trans hl0) hpos 125 (hk 125 hc3.2.1)
  have d13 := byte_fact (hs.trans hl0) hpos 41 (hk 41 hc3.2.2)
  have HG := Lib.hid hl0
  clear hs hlen hl0 hG hk hk2 hc1 hc2 hc3
  go_enter Tryd.func25, Tryd.ntmps25
  go_wp2_with (go_at_call 14; refine (must_true _).mono ?_; rintro e w' ⟨rfl, rfl⟩)
  have HU : Upd (SP b) w (w.alloc (.cells (ndA 0 0 noS 0 0 0 (.slice none 0 0)) 41)) := (Upd.refl (SP b) w).alloc _
  have HS0 : StW (w.alloc (.cells (ndA 0 0 noS 0 0 0 (.slice none 0 0)) 41)) b st := hS'.alloc _
  have HGR : (w.alloc (.cells (ndA 0 0 noS 0 0 0 (.slice none 0 0)) 41)).heap[w.heap.size]? = some (.cells (ndA 0 0 noS 0 0 0 (.slice none 0 0)) 41 (0, 0)) := hq_eq rfl
  have HLT : w.heap.size < (w.alloc (.cells (ndA 0 0 noS 0 0 0 (.slice none 0 0)) 41)).heap.size := by rw [sz_alloc]; omega
  generalize w.alloc (.cells (ndA 0 0 noS 0 0 0 (.slice none 0 0)) 41) = w0 at *
  refine (self_any _ b st c t (fun _ => False) HS0 HG.out h0 h1).mono ?_
  cases hq : mkS { st with left := t } ⟨1, c, noS, 0, 0, 0⟩ .nil with
  | none => (rintro e w1 ⟨rfl, hU1⟩; go_wp2_with fail; rw [hq]; exact ⟨rfl, rfl, HU.trans hU1⟩)
  | some r => (obtain ⟨⟨h, k⟩, st'⟩ := r; rintro e w1 ⟨kv, rfl, hR1, hS1, hU1⟩; have hgr1 := keepNode_st (D := fun _ => True) HS0 hU1 _ _ _ trivial HGR; have hN1 := ndA_one h.kind h.byte h.set h.n h.mn h.mx kv hR1.one; unfold ndH; go_wp2_with ((with_reducible apply stNode); (focus rfl); (focus rfl); (focus ((try simp (disch := (first | (simp only [sz_alloc, sz_set, sz_row, sz_drew, sz_drewN] <;> omega) | omega)) only [hq_eq, hq_ne, hq_set, hq_row, hq_drew, hq_drewN]) <;> (first | rfl | assumption))); (focus (first | assumption | exact ndA_size _ _ _ _ _ _ _)); (focus (first | assumption | exact ndA_size _ _ _ _ _ _ _)); (focus (first | assumption | exact ndA_one _ _ _ _ _ _ _ rfl))); refine retNode rfl rfl rfl (setRow_heap _ _ _ _ _ _ hgr1) (ndA_size _ _ _ _ _ _ _) ?_; rw [hq]; exact outN_tail HU hgr1 (Nat.le_refl _) HLT hR1 hS1 hU1 hb)

set_option maxRecDepth 100000 in set_option maxHeartbeats 4000000 in
theorem slash_bad (row : PSt → Option (Fo × PSt)) (w : World) (b : Nat) (st : PSt) (c : UInt8) (t : List UInt8) (hl0 : st.left = c :: t) (hc3 : c = 123 ∨ c = 125 ∨ c = 41) (hS : StW w b st) :
    Calls Tryd.prog 25 #[.pointer (some ⟨b, 0, none⟩)] w (OutN b (fun _ => False) w (slashS row st)) := by
  have hG : slashS row st = none := by
    simp only [slashS, hl0]
    rcases hc3 with rfl | rfl | rfl <;> rfl
  rw [hG]
  obtain ⟨s, ov, hs, hP, hO⟩ := hS
  have hb := hP.lt
  obtain ⟨c0, -, -, -, -⟩ := hP.cells
  have hlen : s.size = t.length + 1 := by rw [bytes_len, hs, hl0]; rfl
  have hpos : 0 < s.size := by omega
  have hne : s.toList.isEmpty = false := by rw [bytes_toList, hs, hl0]; rfl
  have hk2 : ∀ k : Int, k < 60 ∧ k ≠ 41 → decide ((c.toNat : Int) = k) = false := by
    intro k hk; simp only [decide_eq_false_iff_not]; rcases hc3 with rfl | rfl | rfl <;> simp <;> omega
  have d1 := byte_fact (hs.trans hl0) hpos 40 (hk2 40 (by decide))
  have d2 := byte_fact (hs.trans hl0) hpos 49 (hk2 49 (by decide))
  have d3 := byte_fact (hs.trans hl0) hpos 50 (hk2 50 (by decide))
  have d4 := byte_fact (hs.trans hl0) hpos 51 (hk2 51 (by decide))
  have d5 := byte_fact (hs.trans hl0) hpos 52 (hk2 52 (by decide))
  have d6 := byte_fact (hs.trans hl0) hpos 53 (hk2 53 (by decide))
  have d7 := byte_fact (hs.trans hl0) hpos 54 (hk2 54 (by decide))
  have d8 := byte_fact (hs.trans hl0) hpos 55 (hk2 55 (by decide))
  have d9 := byte_fact (hs.trans hl0) hpos 56 (hk2 56 (by decide))
  have d10 := byte_fact (hs.trans hl0) hpos 57 (hk2 57 (by decide))
  have H0 := first_byte (hs.trans hl0) hpos
  have HC := Lib.hid (show (s[0]'hpos) = 123 ∨ (s[0]'hpos) = 125 ∨ (s[0]'hpos) = 41 by rw [H0]; exact hc3)
  clear hs hlen hl0 hG hk2 hc3 H0
  go_enter Tryd.func25, Tryd.ntmps25
  go_wp2_with (go_at_call 14; refine (must_true _).mono ?_; rintro e w' ⟨rfl, rfl⟩)
  · exact ⟨rfl, rfl, (Upd.refl _ _).alloc _⟩
  · exact ⟨rfl, rfl, (Upd.refl _ _).alloc _⟩
  · exact ⟨rfl, rfl, (Upd.refl _ _).alloc _⟩
  · exfalso
    have e1 : (((s[0]'hpos).toNat : Int) == 123) = false := by assumption
    have e2 : (((s[0]'hpos).toNat : Int) == 125) = false := by assumption
    have e3 : (((s[0]'hpos).toNat : Int) == 41) = false := by assumption
    rcases HC.out with h | h | h
    · rw [h] at e1; exact absurd e1 (by decide)
    · rw [h] at e2; exact absurd e2 (by decide)
    · rw [h] at e3; exact absurd e3 (by decide)

set_option maxRecDepth 100000 in set_option maxHeartbeats 400000 in
theorem slash_nil (row : PSt → Option (Fo × PSt)) (w : World) (b : Nat) (st : PSt) (hl0 : st.left = []) (hS : StW w b st) :
    Calls Tryd.prog 25 #[.pointer (some ⟨b, 0, none⟩)] w (OutN b (fun _ => False) w (slashS row st)) := by
  have hG : slashS row st = none := by simp only [slashS, hl0]
  rw [hG]
  obtain ⟨s, ov, hs, hP, hO⟩ := hS
  have hb := hP.lt
  obtain ⟨c0, -, -, -, -⟩ := hP.cells
  have hne : s.toList.isEmpty = true := by rw [bytes_toList, hs, hl0]; rfl
  clear hs
  go_enter Tryd.func25, Tryd.ntmps25
  go_wp2_with (go_at_call 14; refine (must_false _).mono ?_; rintro e w' ⟨rfl, rfl⟩)
  exact ⟨rfl, rfl, (Upd.refl _ _).alloc _⟩

theorem digit_cases {c : UInt8} (h : 49 ≤ c.toNat ∧ c.toNat ≤ 57) : c = 49 ∨ c = 50 ∨ c = 51 ∨ c = 52 ∨ c = 53 ∨ c = 54 ∨ c = 55 ∨ c = 56 ∨ c = 57 := by
  have h3 : ∀ k : UInt8, c.toNat = k.toNat → c = k := fun k => UInt8.toNat_inj.1
  have h4 : c.toNat = 49 ∨ c.toNat = 50 ∨ c.toNat = 51 ∨ c.toNat = 52 ∨ c.toNat = 53 ∨ c.toNat = 54 ∨ c.toNat = 55 ∨ c.toNat = 56 ∨ c.toNat = 57 := by omega
  rcases h4 with h | h | h | h | h | h | h | h | h
  · exact .inl (h3 49 h)
  · exact .inr (.inl (h3 50 h))
  · exact .inr (.inr (.inl (h3 51 h)))
  · exact .inr (.inr (.inr (.inl (h3 52 h))))
  · exact .inr (.inr (.inr (.inr (.inl (h3 53 h)))))
  · exact .inr (.inr (.inr (.inr (.inr (.inl (h3 54 h))))))
  · exact .inr (.inr (.inr (.inr (.inr (.inr (.inl (h3 55 h)))))))
  · exact .inr (.inr (.inr (.inr (.inr (.inr (.inr (.inl (h3 56 h))))))))
  · exact .inr (.inr (.inr (.inr (.inr (.inr (.inr (.inr (h3 57 h))))))))
/-- slices.Contains at the open groups. -/
theorem contains_open (w : World) (b : Nat) (ov : Value) (zs : List Int) (x : Int) (hO : OpenAt w b ov zs) (hz : zs.length ≤ 9) : Calls Tryd.prog 36 #[ov, .int .i64 x] w fun e w' => e = .returned (.bool (decide (x ∈ zs))) ∧ w' = w := by
  rcases hO.2 with ⟨rfl, h0⟩ | ⟨g, cap, cur, rfl, h⟩
  · refine (Tryd.slices_Contains_int_empty none 0 x w).mono ?_
    rintro e w' ⟨rfl, rfl⟩
    rw [List.length_eq_zero_iff.1 h0]
    exact ⟨rfl, rfl⟩
  · have hc := hO.cells (g := g) rfl
    refine (Tryd.slices_Contains_int g 0 zs.length cap zs x w (Nat.le_refl _) (by omega) fun j hj => ?_).mono ?_
    · have h2 := hc j (.int .i64 (zs.getD j 0)) (by rw [List.getElem?_map, List.getElem?_eq_getElem hj]; simp [hj])
      rw [Nat.zero_add]
      cases j with
      | zero => exact h2
      | succ j => simpa [Addr.add] using h2
    · rintro e w' ⟨rfl, rfl⟩
      rw [List.take_length]
      exact ⟨by congr 2; rw [List.contains_eq_mem], rfl⟩

set_option maxRecDepth 100000 in set_option maxHeartbeats 4000000 in
theorem slash_dig (row : PSt → Option (Fo × PSt)) (w : World) (b : Nat) (st : PSt) (c : UInt8) (t : List UInt8) (hl0 : st.left = c :: t) (hc : 49 ≤ c.toNat ∧ c.toNat ≤ 57) (hS : StW w b st)
    (h0 : 0 ≤ st.m) (h1 : st.m ≤ 200) (g0 : 0 ≤ st.g) (g9 : st.g ≤ 9) (ho : st.opn.length ≤ st.g) :
    Calls Tryd.prog 25 #[.pointer (some ⟨b, 0, none⟩)] w (OutN b (fun _ => False) w (slashS row st)) := by
  have hG : slashS row st = if (c.toNat : Int) - 48 ≤ st.g ∧ ((c.toNat : Int) - 48) ∉ st.opn then mkS { st with left := t, r := true } ⟨6, 0, noS, (c.toNat : Int) - 48, 0, 0⟩ .nil else none := by
    have h40 : c ≠ 40 := by rintro rfl; exact absurd hc.1 (by decide)
    simp only [slashS, hl0, if_neg h40, if_pos hc]
  have hS' := hS
  obtain ⟨s, ov, hs, hP, hO⟩ := hS
  have hb := hP.lt
  obtain ⟨c0, c2, -, c4, c5⟩ := hP.cells
  obtain ⟨f0, -, -, -, f4, -⟩ := hP.free
  have hlen : s.size = t.length + 1 := by rw [bytes_len, hs, hl0]; rfl
  have hpos : 0 < s.size := by omega
  have hne : s.toList.isEmpty = false := by rw [bytes_toList, hs, hl0]; rfl
  have H0 := first_byte (hs.trans hl0) hpos
  rcases digit_cases hc with rfl | rfl | rfl | rfl | rfl | rfl | rfl | rfl | rfl
  all_goals (
    have d1 := byte_fact (hs.trans hl0) hpos 40 rfl
    have d2 := byte_fact (hs.trans hl0) hpos 49 rfl
    have d3 := byte_fact (hs.trans hl0) hpos 50 rfl
    have d4 := byte_fact (hs.trans hl0) hpos 51 rfl
    have d5 := byte_fact (hs.trans hl0) hpos 52 rfl
    have d6 := byte_fact (hs.trans hl0) hpos 53 rfl
    have d7 := byte_fact (hs.trans hl0) hpos 54 rfl
    have d8 := byte_fact (hs.trans hl0) hpos 55 rfl
    have d9 := byte_fact (hs.trans hl0) hpos 56 rfl
    have d10 := byte_fact (hs.trans hl0) hpos 57 rfl
    have HG := Lib.hid hl0
    have HS := Lib.hid hs
    have HL := Lib.hid hlen
    clear hs hlen hl0
    clear hc
    simp (config := { decide := true }) only at d1 d2 d3 d4 d5 d6 d7 d8 d9 d10)
  all_goals (
    have HU0 : Upd (SP b) w (w.alloc (.cells (ndA 0 0 noS 0 0 0 (.slice none 0 0)) 41)) := (Upd.refl (SP b) w).alloc _
    go_enter Tryd.func25, Tryd.ntmps25
    go_wp2_with (go_at_call 14; refine (must_true _).mono ?_; rintro e w' ⟨rfl, rfl⟩)
    · refine (contains_open _ b ov st.opn _ (hO.keep (Keep.alloc _)) (by omega)).mono ?_
      rintro e w' ⟨rfl, rfl⟩
      generalize hx : decide (_ ∈ st.opn) = bx
      cases bx
      · go_wp2_with (go_at_call 14; refine (must_true _).mono ?_; rintro e w' ⟨rfl, rfl⟩)
        have HU : Upd (SP b) w (((w.setCell ⟨b, 0, none⟩ (.string (s.extract 1 s.size))).setCell ⟨b, 4, none⟩ (.bool true)).alloc (.cells (ndA 0 0 noS 0 0 0 (.slice none 0 0)) 41)) :=
          (((Upd.refl (SP b) w).setCell _ _ fun _ => .inl rfl).setCell _ _ fun _ => .inl rfl).alloc _
        have HS0 : StW (((w.setCell ⟨b, 0, none⟩ (.string (s.extract 1 s.size))).setCell ⟨b, 4, none⟩ (.bool true)).alloc (.cells (ndA 0 0 noS 0 0 0 (.slice none 0 0)) 41)) b { st with left := t, r := true } :=
          ⟨_, ov, by rw [bytes_extract, HS.out, HG.out]; rfl, ((hP.setLeft (s.extract 1 s.size)).setR true).alloc _, ((hO.setP 0 (.string (s.extract 1 s.size))).setP 4 (.bool true)).keep (Keep.alloc _)⟩
        have HGR : (((w.setCell ⟨b, 0, none⟩ (.string (s.extract 1 s.size))).setCell ⟨b, 4, none⟩ (.bool true)).alloc (.cells (ndA 0 0 noS 0 0 0 (.slice none 0 0)) 41)).heap[w.heap.size]? = some (.cells (ndA 0 0 noS 0 0 0 (.slice none 0 0)) 41 (0, 0)) := hq_eq (by rw [sz_set, sz_set])
        have HLT : w.heap.size < (((w.setCell ⟨b, 0, none⟩ (.string (s.extract 1 s.size))).setCell ⟨b, 4, none⟩ (.bool true)).alloc (.cells (ndA 0 0 noS 0 0 0 (.slice none 0 0)) 41)).heap.size := by rw [sz_alloc, sz_set, sz_set]; omega
        generalize ((w.setCell ⟨b, 0, none⟩ (.string (s.extract 1 s.size))).setCell ⟨b, 4, none⟩ (.bool true)).alloc (.cells (ndA 0 0 noS 0 0 0 (.slice none 0 0)) 41) = w0 at *
        rw [if_pos ⟨by assumption, of_decide_eq_false hx⟩] at hG
        refine (node_any _ b { st with left := t, r := true } ⟨6, 0, noS, _, 0, 0⟩ (.slice none 0 0) .nil (fun _ => False) HS0 h0 h1 (Rep.nilSlice _ _ _)).mono ?_
        cases hq : mkS { st with left := t, r := true } ⟨6, 0, noS, _, 0, 0⟩ .nil with
        | none => (rintro e w1 ⟨rfl, hU1⟩; go_wp2_with fail; rw [hG.trans hq]; exact ⟨rfl, rfl, HU.trans hU1⟩)
        | some r => (obtain ⟨⟨h, k⟩, st'⟩ := r; rintro e w1 ⟨kv, rfl, hR1, hS1, hU1⟩; have hgr1 := keepNode_st (D := fun _ => True) HS0 hU1 _ _ _ trivial HGR; have hN1 := ndA_one h.kind h.byte h.set h.n h.mn h.mx kv hR1.one; unfold ndH; go_wp2_with ((with_reducible apply stNode); (focus rfl); (focus rfl); (focus ((try simp (disch := (first | (simp only [sz_alloc, sz_set, sz_row, sz_drew, sz_drewN] <;> omega) | omega)) only [hq_eq, hq_ne, hq_set, hq_row, hq_drew, hq_drewN]) <;> (first | rfl | assumption))); (focus (first | assumption | exact ndA_size _ _ _ _ _ _ _)); (focus (first | assumption | exact ndA_size _ _ _ _ _ _ _)); (focus (first | assumption | exact ndA_one _ _ _ _ _ _ _ rfl))); refine retNode rfl rfl rfl (setRow_heap _ _ _ _ _ _ hgr1) (ndA_size _ _ _ _ _ _ _) ?_; rw [hG.trans hq]; exact outN_tail HU hgr1 (Nat.le_refl _) HLT hR1 hS1 hU1 hb)
      · go_wp2_with (go_at_call 14; refine (must_false _).mono ?_; rintro e w' ⟨rfl, rfl⟩)
        rw [hG, if_neg (fun h => h.2 (of_decide_eq_true hx))]
        exact ⟨rfl, rfl, HU0⟩
    · refine (must_false _).mono ?_
      rintro e w' ⟨rfl, rfl⟩
      go_wp2_with fail
      rw [hG, if_neg (fun h => absurd h.1 (Int.not_le.2 (by assumption)))]
      exact ⟨rfl, rfl, HU0⟩)

theorem slash_any (n : Nat) (hrow : RowSaid n) (w : World) (b : Nat) (st : PSt) (hS : StW w b st) (hE : Env w) (h4 : 4 ≤ b) (h0 : 0 ≤ st.m) (h1 : st.m ≤ 200) (g0 : 0 ≤ st.g) (g9 : st.g ≤ 9) (ho : st.opn.length ≤ st.g)
    (hl : st.left.length ≤ n) (hl2 : st.left.length ≤ 1000) :
    Calls Tryd.prog 25 #[.pointer (some ⟨b, 0, none⟩)] w (OutN b (fun _ => False) w (slashS (fun s => rowS n s .nil) st)) := by
  cases hl0 : st.left with
  | nil => exact slash_nil _ w b st hl0 hS
  | cons c t =>
    by_cases hc : c = 40
    · subst hc; exact slash_open n hrow w b st t hl0 hS hE h4 h0 h1 g0 g9 ho hl hl2
    · by_cases hd : 49 ≤ c.toNat ∧ c.toNat ≤ 57
      · exact slash_dig _ w b st c t hl0 hd hS h0 h1 g0 g9 ho
      · by_cases hb : c = 123 ∨ c = 125 ∨ c = 41
        · exact slash_bad _ w b st c t hl0 hb hS
        · exact slash_self _ w b st c t hl0 hc hd hb hS h0 h1
end Go.Proofs.YtkbfckigndkkkaaDoor
