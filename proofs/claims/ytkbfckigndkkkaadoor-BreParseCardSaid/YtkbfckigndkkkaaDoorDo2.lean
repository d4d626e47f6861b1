/-
  Walk: the law BreParse.
-/
import Derived.Test.YtkbfckigndkkkaaDoorSm1
import Derived.Test.YtkbfckigndkkkaaDoorDo1
import Derived.Test.YtkbfckigndkkkaaDoorRp
import Derived.Test.YtkbfckigndkkkaaDoorBs
import Derived.Test.YtkbfckigndkkkaaDoorCls10
import Derived.Test.YtkbfckigndkkkaaDoorReg
import Derived.Deep.Cut
import Derived.Deep.CutRange
namespace Go.Proofs.YtkbfckigndkkkaaDoor
set_option linter.unusedSimpArgs false
set_option linter.unusedVariables false
open Go Go.RowKit

theorem re_cells {w : World} {b : Nat} {v g m r : Value} {e : TypeId} {fr : Nat × Nat} (h : w.heap[b]? = some (.cells #[v, g, m, r] e fr)) :
    b < w.heap.size ∧ w.cell? ⟨b, 0, none⟩ = some v ∧ w.cell? ⟨b, 1, none⟩ = some g ∧ w.cell? ⟨b, 2, none⟩ = some m ∧ w.cell? ⟨b, 3, none⟩ = some r := by
  refine ⟨lt_of_heap h, ?_, ?_, ?_, ?_⟩ <;> rw [cell_of_heap h] <;> rfl
/-- What becomes of a pattern's nodes when their kinds are written. -/
structure Kp (B g : Nat) (w w' : World) : Prop where
  below : Below B w w'
  shape : ∀ (k : Nat) (cs : Array Value) (e : TypeId) (fr : Nat × Nat), w.heap[k]? = some (Obj.cells cs e fr) → ∃ cs' : Array Value, w'.heap[k]? = some (Obj.cells cs' e fr) ∧ cs'.size = cs.size
  froz : ∀ q : Addr, w'.frozen? q = w.frozen? q
  kids : ∀ j : Nat, w'.cell? ⟨g, j * 262 + 261, none⟩ = w.cell? ⟨g, j * 262 + 261, none⟩
theorem Kp.refl (B g : Nat) (w : World) : Kp B g w w := ⟨Below.refl _ _, fun _ cs _ _ h => ⟨cs, h, rfl⟩, fun _ => rfl, fun _ => rfl⟩
theorem Kp.step {B g : Nat} {w w' : World} (h : Kp B g w w') {b o : Nat} {v : Value} (hb : B ≤ b) (ho : b = g → ∀ j, j * 262 + 261 ≠ o) : Kp B g w (w'.setCell ⟨b, o, none⟩ v) := by
  refine ⟨h.below.setCell hb _, fun k cs e fr hk => ?_, fun q => (World.frozen?_setCell _ _ _ _).trans (h.froz q), fun j => ?_⟩
  · obtain ⟨cs', h1, h2⟩ := h.shape k cs e fr hk
    by_cases hkb : k = b
    · subst hkb
      exact ⟨_, heap_setCell_at h1 o v, by simpa using h2⟩
    · exact ⟨cs', (hq_set hkb).trans h1, h2⟩
  · rw [← h.kids j]
    by_cases hgb : g = b
    · subst hgb
      exact World.cell?_setCell_other _ _ _ _ (fun e => by cases e; exact ho rfl j rfl)
    · exact World.cell?_of_block (hq_set hgb)
theorem Kp.cell {B g : Nat} {w w' : World} (h : Kp B g w w') {b o : Nat} {cs : Array Value} {e : TypeId} {fr : Nat × Nat} (hb : w.heap[b]? = some (Obj.cells cs e fr)) (ho : o < cs.size) : b < w'.heap.size ∧ ∃ y, w'.cell? ⟨b, o, none⟩ = some y := by
  obtain ⟨cs', h1, h2⟩ := h.shape b cs e fr hb
  exact ⟨lt_of_heap h1, _, by rw [cell_of_heap h1]; exact Array.getElem?_eq_getElem (by omega)⟩
theorem Keep.ofBelowAt {B : Nat} {e : TypeId} {w w' : World} (h : Below B w w') : Keep (fun j => j < B) e w w' := fun b _ _ hd hb => by rw [h.block b hd]; exact hb
set_option maxRecDepth 100000 in set_option maxHeartbeats 4000000 in
theorem breParse_none (hcls : ClsSaid) (w : World) (s : ByteArray) (hE : Env w) (h4 : 4 ≤ w.heap.size) (hl : s.size ≤ 1000) (h1 : breS s.data.toList = none) (h2 : refS s = none) :
    Calls Tryd.prog 3 #[.string s] w fun e w' => e = .returned (.bool true) ∧ Below w.heap.size w w' := by
  have hd : decide ((1000 : Int) < (s.size : Int)) = false := decide_eq_false (by omega)
  have hp1 := parse_any hcls w s hE h4 hl
  rw [h1] at hp1
  have HP1 := Lib.hid hp1
  have H1 := Lib.hid h1
  have H2 := Lib.hid h2
  clear hp1 h1 h2
  go_enter Tryd.func3, Tryd.ntmps3
  go_upto_region 3 with fail
  go_upto_region 4 with (go_at_call 4; refine HP1.out.mono ?_; rintro e w1 ⟨rfl, hB1⟩)
  have hp2 := rparse_walk w1 s hl
  rw [H2.out] at hp2
  have HP2 := Lib.hid hp2
  clear hp2
  go_upto_region 8 with (go_at_call 5; refine HP2.out.mono ?_; rintro e w2 ⟨rfl, hB2⟩)
  have hB := hB1.trans (hB2.mono hB1.size)
  have hE2 := hE.below hB h4
  have hdo := does_said hcls w2 hE2 (Nat.le_trans h4 hB.size)
  have HDO := Lib.hid hdo
  clear hdo
  go_wp2_with (first
    | (go_at_call 6; ((with_reducible refine (tree_nil _).mono ?_); rintro e w5 ⟨rfl, rfl⟩))
    | (go_at_call 7; ((with_reducible refine (groups_nil _).mono ?_); rintro e w5 ⟨rfl, rfl⟩))
    | (go_at_call 8; ((with_reducible refine (refs_nil _).mono ?_); rintro e w5 ⟨rfl, rfl⟩))
    | (go_at_call 9; ((with_reducible refine (parts_nil _).mono ?_); rintro e w5 ⟨rfl, rfl⟩))
    | (go_at_call 10; refine HDO.out.mono ?_; rintro e w6 ⟨rfl, hB6⟩))
  go_ret
  exact ⟨rfl, hB.trans (hB6.mono hB.size)⟩
set_option maxRecDepth 100000 in set_option maxHeartbeats 4000000 in
theorem breParse_some (hcls : ClsSaid) (w : World) (s : ByteArray) (hE : Env w) (h4 : 4 ≤ w.heap.size) (hl : s.size ≤ 1000) (fo : Fo) (p : PSt) (st : RSt) (h1 : breS s.data.toList = some (fo, p)) (h2 : refS s = some (fo, st))
    (hg : p.g = st.g) (hm : p.m = st.many) (hr : p.r = st.refs) (hz : fo.size ≤ 1000) :
    Calls Tryd.prog 3 #[.string s] w fun e w' => e = .returned (.bool true) ∧ Below w.heap.size w w' := by
  have hd : decide ((1000 : Int) < (s.size : Int)) = false := decide_eq_false (by omega)
  have hp1 := parse_any hcls w s hE h4 hl
  rw [h1] at hp1
  have HP1 := Lib.hid hp1
  have H2 := Lib.hid h2
  have HG := Lib.hid hg
  have HM := Lib.hid hm
  have HR := Lib.hid hr
  clear hp1 h1 h2 hg hm hr
  go_enter Tryd.func3, Tryd.ntmps3
  go_upto_region 3 with fail
  go_upto_region 4 with (go_at_call 4; refine HP1.out.mono ?_; rintro e w1 ⟨b1, s1, v1, ov1, rfl, hb1, hq1, hR1, hB1⟩)
  have hP1 : PB w1 b1 v1 st.g st.many st.refs := ⟨s1, ov1, by rw [HG.out, HM.out, HR.out] at hq1; exact hq1⟩
  clear hq1
  have hp2 := rparse_walk w1 s hl
  rw [H2.out] at hp2
  have HP2 := Lib.hid hp2
  clear hp2
  go_upto_region 9 with (go_at_call 5; refine HP2.out.mono ?_; rintro e w2 ⟨b2, v2, rfl, hb2, hq2, hR2, hB2⟩)
  have hBa := hB1.trans (hB2.mono hB1.size)
  have hP2 := hP1.below hB2
  have hR12 := hR1.keep (Keep.ofBelow hB2)
  have HQ := Lib.hid hq2
  have HT := Lib.hid (tree_said w2 b1 v1 st.g st.many st.refs fo _ hP2 hR12 hz)
  clear hq2
  go_upto_region 10 with (go_at_call 6; refine HT.out.mono ?_; rintro e w3 ⟨v3, ks, rfl, hown, hkl, hkid, hB3⟩; obtain ⟨a2, c2, rfl⟩ := own_slice hown)
  have hlb2 : b2 < w3.heap.size := Nat.lt_of_lt_of_le (lt_of_heap HQ.out) hB3.size
  have HQ2 := Lib.hid ((hB3.block b2 (lt_of_heap HQ.out)).trans HQ.out)
  have hP := hP2.below hB3
  have HR3 := Lib.hid ((TwinOut.rep hown hkl hkid).mono (D' := fun _ => True) fun _ _ _ => trivial)
  have HR2 := Lib.hid ((hR2.mono (D' := fun _ => True) fun _ _ _ => trivial).keep (Keep.ofBelow hB3))
  have HR22 := Lib.hid hR2
  clear hR2
  go_cut [92] (fun v92 wx => v92 = .bool false ∧ Below w3.heap.size w3 wx)
  case first =>
    refine wp_region_vals (by kernel_rfl) (fun i v w2 => match i with | 0 => v = .slice a2 fo.tops.length c2 | 1 => v = .pointer (some ⟨b2, 0, none⟩) | 2 => v = .pointer (some ⟨b2, 0, none⟩) | 3 => v = .pointer (some ⟨b2, 0, none⟩) | 4 => v = v2 | 5 => v = .bool true | 6 => v = .bool false | 7 => v = .bool false | 8 => v = .pointer (some ⟨b1, 1, none⟩) | 9 => v = .int .i64 st.g | 10 => v = .pointer (some ⟨b2, 0, none⟩) | 11 => v = .pointer (some ⟨b2, 0, none⟩) | 12 => v = .pointer (some ⟨b2, 1, none⟩) | 13 => v = .int .i64 st.g | 14 => v = .bool false | 15 => v = .bool false | 16 => v = .bool false | 17 => v = .pointer (some ⟨b1, 1, none⟩) | 18 => v = .bool st.refs | 19 => v = .pointer (some ⟨b2, 0, none⟩) | 20 => v = .pointer (some ⟨b2, 0, none⟩) | 21 => v = .pointer (some ⟨b2, 3, none⟩) | 22 => v = .bool st.refs | 23 => v = .bool false | 24 => v = .bool false | 25 => v = .bool false | 26 => v = .pointer (some ⟨b1, 1, none⟩) | 27 => v = .int .i64 st.many | 28 => v = .pointer (some ⟨b2, 0, none⟩) | 29 => v = .pointer (some ⟨b2, 0, none⟩) | 30 => v = .pointer (some ⟨b2, 2, none⟩) | 31 => v = .int .i64 st.many | 32 => v = .bool false | 33 => v = .bool false | _ => True)
      (fun w2 => Below w3.heap.size w3 w2) (by kernel_rfl) (by kernel_rfl) (by kernel_rfl) ?_ (⟨rfl, rfl, rfl, Nat.le_refl _, fun _ _ => rfl⟩) (fun w1 w2 h1 h2 => h1.trans (h2.mono h1.size)) ?_ ?_
    · intro i v w1 w2 h hB
      match i, h with
      | 0, h => exact h
      | 1, h => exact h
      | 2, h => exact h
      | 3, h => exact h
      | 4, h => exact h
      | 5, h => exact h
      | 6, h => exact h
      | 7, h => exact h
      | 8, h => exact h
      | 9, h => exact h
      | 10, h => exact h
      | 11, h => exact h
      | 12, h => exact h
      | 13, h => exact h
      | 14, h => exact h
      | 15, h => exact h
      | 16, h => exact h
      | 17, h => exact h
      | 18, h => exact h
      | 19, h => exact h
      | 20, h => exact h
      | 21, h => exact h
      | 22, h => exact h
      | 23, h => exact h
      | 24, h => exact h
      | 25, h => exact h
      | 26, h => exact h
      | 27, h => exact h
      | 28, h => exact h
      | 29, h => exact h
      | 30, h => exact h
      | 31, h => exact h
      | 32, h => exact h
      | 33, h => exact h
      | n + 34, h => trivial
    · intro i o ho
      match i, ho with
      | 0, ho =>
        obtain rfl := Option.some.inj ho
        clear ho
        intro vals w1 a hg hF ha
        have e0 : a.eval (.tmp 7) = .slice a2 fo.tops.length c2 := (ha (.tmp 7) (by simp [Op.operands, Call.operands])).trans rfl
        refine (if_pos rfl).mpr (.inl ?_)
        refine wp_value (v := .slice a2 fo.tops.length c2) ?_ ⟨_, rfl, rfl, Below.refl _ _⟩
        have hc : ∀ v, a.eval (.const v) = v := fun _ => rfl
        have hfn : ∀ f, a.eval (.func f) = .func (.func f) #[] #[] := fun _ => rfl
        clear ha hF
        generalize a.eval = ρ at *
        simp [execOp, go_sem, e0, hc, hfn]
      | 1, ho =>
        obtain rfl := Option.some.inj ho
        clear ho
        intro vals w1 a hg hF ha
        have e0 : a.eval (.tmp 5) = .pointer (some ⟨b2, 0, none⟩) := (ha (.tmp 5) (by simp [Op.operands, Call.operands])).trans rfl
        refine (if_pos rfl).mpr (.inl ?_)
        refine wp_value (v := .pointer (some ⟨b2, 0, none⟩)) ?_ ⟨_, rfl, rfl, Below.refl _ _⟩
        have hc : ∀ v, a.eval (.const v) = v := fun _ => rfl
        have hfn : ∀ f, a.eval (.func f) = .func (.func f) #[] #[] := fun _ => rfl
        clear ha hF
        generalize a.eval = ρ at *
        simp [execOp, go_sem, e0, hc, hfn]
      | 2, ho =>
        obtain rfl := Option.some.inj ho
        clear ho
        intro vals w1 a hg hF ha
        have f0 : vals 1 = .pointer (some ⟨b2, 0, none⟩) := hF 1 (mem_ancs (by kernel_rfl))
        have e0 : a.eval (.tmp 60) = .pointer (some ⟨b2, 0, none⟩) := ((ha (.tmp 60) (by simp [Op.operands, Call.operands])).trans rfl).trans f0
        refine (if_pos rfl).mpr (.inl ?_)
        refine wp_value (v := .pointer (some ⟨b2, 0, none⟩)) ?_ ⟨_, rfl, rfl, Below.refl _ _⟩
        have hc : ∀ v, a.eval (.const v) = v := fun _ => rfl
        have hfn : ∀ f, a.eval (.func f) = .func (.func f) #[] #[] := fun _ => rfl
        clear ha hF
        generalize a.eval = ρ at *
        simp [execOp, go_sem, e0, hc, hfn]
      | 3, ho =>
        obtain rfl := Option.some.inj ho
        clear ho
        intro vals w1 a hg hF ha
        have f0 : vals 2 = .pointer (some ⟨b2, 0, none⟩) := hF 2 (mem_ancs (by kernel_rfl))
        have e0 : a.eval (.tmp 61) = .pointer (some ⟨b2, 0, none⟩) := ((ha (.tmp 61) (by simp [Op.operands, Call.operands])).trans rfl).trans f0
        refine (if_pos rfl).mpr (.inl ?_)
        refine wp_value (v := .pointer (some ⟨b2, 0, none⟩)) ?_ ⟨_, rfl, rfl, Below.refl _ _⟩
        have hc : ∀ v, a.eval (.const v) = v := fun _ => rfl
        have hfn : ∀ f, a.eval (.func f) = .func (.func f) #[] #[] := fun _ => rfl
        clear ha hF
        generalize a.eval = ρ at *
        simp [execOp, go_sem, e0, hc, hfn]
      | 4, ho =>
        obtain rfl := Option.some.inj ho
        clear ho
        intro vals w1 a hg hF ha
        have f0 : vals 3 = .pointer (some ⟨b2, 0, none⟩) := hF 3 (mem_ancs (by kernel_rfl))
        have e0 : a.eval (.tmp 62) = .pointer (some ⟨b2, 0, none⟩) := ((ha (.tmp 62) (by simp [Op.operands, Call.operands])).trans rfl).trans f0
        refine (if_pos rfl).mpr (.inl ?_)
        obtain ⟨hb2, k0, k1, k2, k3⟩ := re_cells (show w1.heap[b2]? = _ from (hg.block b2 hlb2).trans HQ2.out)
        refine wp_value (v := v2) ?_ ⟨_, rfl, rfl, Below.refl _ _⟩
        have hc : ∀ v, a.eval (.const v) = v := fun _ => rfl
        have hfn : ∀ f, a.eval (.func f) = .func (.func f) #[] #[] := fun _ => rfl
        clear ha hF
        generalize a.eval = ρ at *
        simp [execOp, go_sem, e0, hb2, k0, k1, k2, k3, hc, hfn]
      | 5, ho =>
        obtain rfl := Option.some.inj ho
        clear ho
        intro vals w1 a hg hF ha
        have f0 : vals 0 = .slice a2 fo.tops.length c2 := hF 0 (mem_ancs (by kernel_rfl))
        have e0 : a.eval (.tmp 59) = .slice a2 fo.tops.length c2 := ((ha (.tmp 59) (by simp [Op.operands, Call.operands])).trans rfl).trans f0
        have f1 : vals 4 = v2 := hF 4 (mem_ancs (by kernel_rfl))
        have e1 : a.eval (.tmp 63) = v2 := ((ha (.tmp 63) (by simp [Op.operands, Call.operands])).trans rfl).trans f1
        refine (if_pos rfl).mpr (.inl ?_)
        refine wp_callE (f := 11) (args := #[.slice a2 fo.tops.length c2, v2]) (w1 := w1) ?_ ((same_said (fo.size + 1) fo w1 _ v2 _ _ (by omega) hz (HR3.out.keep (Keep.ofBelow hg)) (HR2.out.keep (Keep.ofBelow hg))).mono ?_)
        rotate_left
        · rintro e w2 ⟨rfl, hB⟩
          exact ⟨_, rfl, _, rfl, rfl, hB⟩
        have hc : ∀ v, a.eval (.const v) = v := fun _ => rfl
        have hfn : ∀ f, a.eval (.func f) = .func (.func f) #[] #[] := fun _ => rfl
        clear ha hF
        generalize a.eval = ρ at *
        simp [execOp, go_sem, e0, e1, hc, hfn]
      | 6, ho =>
        obtain rfl := Option.some.inj ho
        clear ho
        intro vals w1 a hg hF ha
        have f0 : vals 5 = .bool true := hF 5 (mem_ancs (by kernel_rfl))
        have e0 : a.eval (.tmp 64) = .bool true := ((ha (.tmp 64) (by simp [Op.operands, Call.operands])).trans rfl).trans f0
        refine (if_pos rfl).mpr (.inl ?_)
        refine wp_value (v := .bool false) ?_ ⟨_, rfl, rfl, Below.refl _ _⟩
        have hc : ∀ v, a.eval (.const v) = v := fun _ => rfl
        have hfn : ∀ f, a.eval (.func f) = .func (.func f) #[] #[] := fun _ => rfl
        clear ha hF
        generalize a.eval = ρ at *
        simp [execOp, go_sem, e0, hc, hfn]
      | 7, ho =>
        obtain rfl := Option.some.inj ho
        clear ho
        intro vals w1 a hg hF ha
        have f0 : vals 6 = .bool false := hF 6 (mem_ancs (by kernel_rfl))
        have e0 : a.eval (.tmp 65) = .bool false := ((ha (.tmp 65) (by simp [Op.operands, Call.operands])).trans rfl).trans f0
        refine (if_pos rfl).mpr (.inl ?_)
        refine wp_value (v := .bool false) ?_ ⟨_, rfl, rfl, Below.refl _ _⟩
        have hc : ∀ v, a.eval (.const v) = v := fun _ => rfl
        have hfn : ∀ f, a.eval (.func f) = .func (.func f) #[] #[] := fun _ => rfl
        clear ha hF
        generalize a.eval = ρ at *
        simp [execOp, go_sem, e0, hc, hfn]
      | 8, ho =>
        obtain rfl := Option.some.inj ho
        clear ho
        intro vals w1 a hg hF ha
        have e0 : a.eval (.tmp 3) = .pointer (some ⟨b1, 1, none⟩) := (ha (.tmp 3) (by simp [Op.operands, Call.operands])).trans rfl
        have g0 : vals 7 = .bool false := hF 7 (mem_ancs (by kernel_rfl))
        refine (if_pos (by simp [wantedV, g0])).mpr (.inl ?_)
        refine wp_value (v := .pointer (some ⟨b1, 1, none⟩)) ?_ ⟨_, rfl, rfl, Below.refl _ _⟩
        have hc : ∀ v, a.eval (.const v) = v := fun _ => rfl
        have hfn : ∀ f, a.eval (.func f) = .func (.func f) #[] #[] := fun _ => rfl
        clear ha hF
        generalize a.eval = ρ at *
        simp [execOp, go_sem, e0, hc, hfn]
      | 9, ho =>
        obtain rfl := Option.some.inj ho
        clear ho
        intro vals w1 a hg hF ha
        have f0 : vals 8 = .pointer (some ⟨b1, 1, none⟩) := hF 8 (mem_ancs (by kernel_rfl))
        have e0 : a.eval (.tmp 67) = .pointer (some ⟨b1, 1, none⟩) := ((ha (.tmp 67) (by simp [Op.operands, Call.operands])).trans rfl).trans f0
        have g0 : vals 7 = .bool false := hF 7 (mem_ancs (by kernel_rfl))
        refine (if_pos (by simp [wantedV, g0])).mpr (.inl ?_)
        refine wp_calls (f := 7) (args := #[.pointer (some ⟨b1, 1, none⟩)]) (w1 := w1) (w' := w1) (v := .int .i64 st.g) ?_ (groups_said w1 _ _ _ _ _ (hP.below hg)) ⟨_, rfl, rfl, Below.refl _ _⟩
        have hc : ∀ v, a.eval (.const v) = v := fun _ => rfl
        have hfn : ∀ f, a.eval (.func f) = .func (.func f) #[] #[] := fun _ => rfl
        clear ha hF
        generalize a.eval = ρ at *
        simp [execOp, go_sem, e0, hc, hfn]
      | 10, ho =>
        obtain rfl := Option.some.inj ho
        clear ho
        intro vals w1 a hg hF ha
        have e0 : a.eval (.tmp 5) = .pointer (some ⟨b2, 0, none⟩) := (ha (.tmp 5) (by simp [Op.operands, Call.operands])).trans rfl
        have g0 : vals 7 = .bool false := hF 7 (mem_ancs (by kernel_rfl))
        refine (if_pos (by simp [wantedV, g0])).mpr (.inl ?_)
        refine wp_value (v := .pointer (some ⟨b2, 0, none⟩)) ?_ ⟨_, rfl, rfl, Below.refl _ _⟩
        have hc : ∀ v, a.eval (.const v) = v := fun _ => rfl
        have hfn : ∀ f, a.eval (.func f) = .func (.func f) #[] #[] := fun _ => rfl
        clear ha hF
        generalize a.eval = ρ at *
        simp [execOp, go_sem, e0, hc, hfn]
      | 11, ho =>
        obtain rfl := Option.some.inj ho
        clear ho
        intro vals w1 a hg hF ha
        have f0 : vals 10 = .pointer (some ⟨b2, 0, none⟩) := hF 10 (mem_ancs (by kernel_rfl))
        have e0 : a.eval (.tmp 69) = .pointer (some ⟨b2, 0, none⟩) := ((ha (.tmp 69) (by simp [Op.operands, Call.operands])).trans rfl).trans f0
        have g0 : vals 7 = .bool false := hF 7 (mem_ancs (by kernel_rfl))
        refine (if_pos (by simp [wantedV, g0])).mpr (.inl ?_)
        refine wp_value (v := .pointer (some ⟨b2, 0, none⟩)) ?_ ⟨_, rfl, rfl, Below.refl _ _⟩
        have hc : ∀ v, a.eval (.const v) = v := fun _ => rfl
        have hfn : ∀ f, a.eval (.func f) = .func (.func f) #[] #[] := fun _ => rfl
        clear ha hF
        generalize a.eval = ρ at *
        simp [execOp, go_sem, e0, hc, hfn]
      | 12, ho =>
        obtain rfl := Option.some.inj ho
        clear ho
        intro vals w1 a hg hF ha
        have f0 : vals 11 = .pointer (some ⟨b2, 0, none⟩) := hF 11 (mem_ancs (by kernel_rfl))
        have e0 : a.eval (.tmp 70) = .pointer (some ⟨b2, 0, none⟩) := ((ha (.tmp 70) (by simp [Op.operands, Call.operands])).trans rfl).trans f0
        have g0 : vals 7 = .bool false := hF 7 (mem_ancs (by kernel_rfl))
        refine (if_pos (by simp [wantedV, g0])).mpr (.inl ?_)
        refine wp_value (v := .pointer (some ⟨b2, 1, none⟩)) ?_ ⟨_, rfl, rfl, Below.refl _ _⟩
        have hc : ∀ v, a.eval (.const v) = v := fun _ => rfl
        have hfn : ∀ f, a.eval (.func f) = .func (.func f) #[] #[] := fun _ => rfl
        clear ha hF
        generalize a.eval = ρ at *
        simp [execOp, go_sem, e0, hc, hfn]
      | 13, ho =>
        obtain rfl := Option.some.inj ho
        clear ho
        intro vals w1 a hg hF ha
        have f0 : vals 12 = .pointer (some ⟨b2, 1, none⟩) := hF 12 (mem_ancs (by kernel_rfl))
        have e0 : a.eval (.tmp 71) = .pointer (some ⟨b2, 1, none⟩) := ((ha (.tmp 71) (by simp [Op.operands, Call.operands])).trans rfl).trans f0
        have g0 : vals 7 = .bool false := hF 7 (mem_ancs (by kernel_rfl))
        refine (if_pos (by simp [wantedV, g0])).mpr (.inl ?_)
        obtain ⟨hb2, k0, k1, k2, k3⟩ := re_cells (show w1.heap[b2]? = _ from (hg.block b2 hlb2).trans HQ2.out)
        refine wp_value (v := .int .i64 st.g) ?_ ⟨_, rfl, rfl, Below.refl _ _⟩
        have hc : ∀ v, a.eval (.const v) = v := fun _ => rfl
        have hfn : ∀ f, a.eval (.func f) = .func (.func f) #[] #[] := fun _ => rfl
        clear ha hF
        generalize a.eval = ρ at *
        simp [execOp, go_sem, e0, hb2, k0, k1, k2, k3, hc, hfn]
      | 14, ho =>
        obtain rfl := Option.some.inj ho
        clear ho
        intro vals w1 a hg hF ha
        have f0 : vals 9 = .int .i64 st.g := hF 9 (mem_ancs (by kernel_rfl))
        have e0 : a.eval (.tmp 68) = .int .i64 st.g := ((ha (.tmp 68) (by simp [Op.operands, Call.operands])).trans rfl).trans f0
        have f1 : vals 13 = .int .i64 st.g := hF 13 (mem_ancs (by kernel_rfl))
        have e1 : a.eval (.tmp 72) = .int .i64 st.g := ((ha (.tmp 72) (by simp [Op.operands, Call.operands])).trans rfl).trans f1
        have g0 : vals 7 = .bool false := hF 7 (mem_ancs (by kernel_rfl))
        refine (if_pos (by simp [wantedV, g0])).mpr (.inl ?_)
        refine wp_value (v := .bool false) ?_ ⟨_, rfl, rfl, Below.refl _ _⟩
        have hc : ∀ v, a.eval (.const v) = v := fun _ => rfl
        have hfn : ∀ f, a.eval (.func f) = .func (.func f) #[] #[] := fun _ => rfl
        clear ha hF
        generalize a.eval = ρ at *
        simp [execOp, go_sem, e0, e1, hc, hfn]
      | 15, ho =>
        obtain rfl := Option.some.inj ho
        clear ho
        intro vals w1 a hg hF ha
        have f0 : vals 7 = .bool false := hF 7 (mem_ancs (by kernel_rfl))
        have e0 : a.eval (.tmp 66) = .bool false := ((ha (.tmp 66) (by simp [Op.operands, Call.operands])).trans rfl).trans f0
        have f1 : vals 14 = .bool false := hF 14 (mem_ancs (by kernel_rfl))
        have e1 : a.eval (.tmp 73) = .bool false := ((ha (.tmp 73) (by simp [Op.operands, Call.operands])).trans rfl).trans f1
        refine (if_pos rfl).mpr (.inl ?_)
        refine wp_value (v := .bool false) ?_ ⟨_, rfl, rfl, Below.refl _ _⟩
        have hc : ∀ v, a.eval (.const v) = v := fun _ => rfl
        have hfn : ∀ f, a.eval (.func f) = .func (.func f) #[] #[] := fun _ => rfl
        clear ha hF
        generalize a.eval = ρ at *
        simp [execOp, go_sem, e0, e1, hc, hfn]
      | 16, ho =>
        obtain rfl := Option.some.inj ho
        clear ho
        intro vals w1 a hg hF ha
        have f0 : vals 15 = .bool false := hF 15 (mem_ancs (by kernel_rfl))
        have e0 : a.eval (.tmp 74) = .bool false := ((ha (.tmp 74) (by simp [Op.operands, Call.operands])).trans rfl).trans f0
        refine (if_pos rfl).mpr (.inl ?_)
        refine wp_value (v := .bool false) ?_ ⟨_, rfl, rfl, Below.refl _ _⟩
        have hc : ∀ v, a.eval (.const v) = v := fun _ => rfl
        have hfn : ∀ f, a.eval (.func f) = .func (.func f) #[] #[] := fun _ => rfl
        clear ha hF
        generalize a.eval = ρ at *
        simp [execOp, go_sem, e0, hc, hfn]
      | 17, ho =>
        obtain rfl := Option.some.inj ho
        clear ho
        intro vals w1 a hg hF ha
        have e0 : a.eval (.tmp 3) = .pointer (some ⟨b1, 1, none⟩) := (ha (.tmp 3) (by simp [Op.operands, Call.operands])).trans rfl
        have g0 : vals 16 = .bool false := hF 16 (mem_ancs (by kernel_rfl))
        refine (if_pos (by simp [wantedV, g0])).mpr (.inl ?_)
        refine wp_value (v := .pointer (some ⟨b1, 1, none⟩)) ?_ ⟨_, rfl, rfl, Below.refl _ _⟩
        have hc : ∀ v, a.eval (.const v) = v := fun _ => rfl
        have hfn : ∀ f, a.eval (.func f) = .func (.func f) #[] #[] := fun _ => rfl
        clear ha hF
        generalize a.eval = ρ at *
        simp [execOp, go_sem, e0, hc, hfn]
      | 18, ho =>
        obtain rfl := Option.some.inj ho
        clear ho
        intro vals w1 a hg hF ha
        have f0 : vals 17 = .pointer (some ⟨b1, 1, none⟩) := hF 17 (mem_ancs (by kernel_rfl))
        have e0 : a.eval (.tmp 76) = .pointer (some ⟨b1, 1, none⟩) := ((ha (.tmp 76) (by simp [Op.operands, Call.operands])).trans rfl).trans f0
        have g0 : vals 16 = .bool false := hF 16 (mem_ancs (by kernel_rfl))
        refine (if_pos (by simp [wantedV, g0])).mpr (.inl ?_)
        refine wp_calls (f := 8) (args := #[.pointer (some ⟨b1, 1, none⟩)]) (w1 := w1) (w' := w1) (v := .bool st.refs) ?_ (refs_said w1 _ _ _ _ _ (hP.below hg)) ⟨_, rfl, rfl, Below.refl _ _⟩
        have hc : ∀ v, a.eval (.const v) = v := fun _ => rfl
        have hfn : ∀ f, a.eval (.func f) = .func (.func f) #[] #[] := fun _ => rfl
        clear ha hF
        generalize a.eval = ρ at *
        simp [execOp, go_sem, e0, hc, hfn]
      | 19, ho =>
        obtain rfl := Option.some.inj ho
        clear ho
        intro vals w1 a hg hF ha
        have e0 : a.eval (.tmp 5) = .pointer (some ⟨b2, 0, none⟩) := (ha (.tmp 5) (by simp [Op.operands, Call.operands])).trans rfl
        have g0 : vals 16 = .bool false := hF 16 (mem_ancs (by kernel_rfl))
        refine (if_pos (by simp [wantedV, g0])).mpr (.inl ?_)
        refine wp_value (v := .pointer (some ⟨b2, 0, none⟩)) ?_ ⟨_, rfl, rfl, Below.refl _ _⟩
        have hc : ∀ v, a.eval (.const v) = v := fun _ => rfl
        have hfn : ∀ f, a.eval (.func f) = .func (.func f) #[] #[] := fun _ => rfl
        clear ha hF
        generalize a.eval = ρ at *
        simp [execOp, go_sem, e0, hc, hfn]
      | 20, ho =>
        obtain rfl := Option.some.inj ho
        clear ho
        intro vals w1 a hg hF ha
        have f0 : vals 19 = .pointer (some ⟨b2, 0, none⟩) := hF 19 (mem_ancs (by kernel_rfl))
        have e0 : a.eval (.tmp 78) = .pointer (some ⟨b2, 0, none⟩) := ((ha (.tmp 78) (by simp [Op.operands, Call.operands])).trans rfl).trans f0
        have g0 : vals 16 = .bool false := hF 16 (mem_ancs (by kernel_rfl))
        refine (if_pos (by simp [wantedV, g0])).mpr (.inl ?_)
        refine wp_value (v := .pointer (some ⟨b2, 0, none⟩)) ?_ ⟨_, rfl, rfl, Below.refl _ _⟩
        have hc : ∀ v, a.eval (.const v) = v := fun _ => rfl
        have hfn : ∀ f, a.eval (.func f) = .func (.func f) #[] #[] := fun _ => rfl
        clear ha hF
        generalize a.eval = ρ at *
        simp [execOp, go_sem, e0, hc, hfn]
      | 21, ho =>
        obtain rfl := Option.some.inj ho
        clear ho
        intro vals w1 a hg hF ha
        have f0 : vals 20 = .pointer (some ⟨b2, 0, none⟩) := hF 20 (mem_ancs (by kernel_rfl))
        have e0 : a.eval (.tmp 79) = .pointer (some ⟨b2, 0, none⟩) := ((ha (.tmp 79) (by simp [Op.operands, Call.operands])).trans rfl).trans f0
        have g0 : vals 16 = .bool false := hF 16 (mem_ancs (by kernel_rfl))
        refine (if_pos (by simp [wantedV, g0])).mpr (.inl ?_)
        refine wp_value (v := .pointer (some ⟨b2, 3, none⟩)) ?_ ⟨_, rfl, rfl, Below.refl _ _⟩
        have hc : ∀ v, a.eval (.const v) = v := fun _ => rfl
        have hfn : ∀ f, a.eval (.func f) = .func (.func f) #[] #[] := fun _ => rfl
        clear ha hF
        generalize a.eval = ρ at *
        simp [execOp, go_sem, e0, hc, hfn]
      | 22, ho =>
        obtain rfl := Option.some.inj ho
        clear ho
        intro vals w1 a hg hF ha
        have f0 : vals 21 = .pointer (some ⟨b2, 3, none⟩) := hF 21 (mem_ancs (by kernel_rfl))
        have e0 : a.eval (.tmp 80) = .pointer (some ⟨b2, 3, none⟩) := ((ha (.tmp 80) (by simp [Op.operands, Call.operands])).trans rfl).trans f0
        have g0 : vals 16 = .bool false := hF 16 (mem_ancs (by kernel_rfl))
        refine (if_pos (by simp [wantedV, g0])).mpr (.inl ?_)
        obtain ⟨hb2, k0, k1, k2, k3⟩ := re_cells (show w1.heap[b2]? = _ from (hg.block b2 hlb2).trans HQ2.out)
        refine wp_value (v := .bool st.refs) ?_ ⟨_, rfl, rfl, Below.refl _ _⟩
        have hc : ∀ v, a.eval (.const v) = v := fun _ => rfl
        have hfn : ∀ f, a.eval (.func f) = .func (.func f) #[] #[] := fun _ => rfl
        clear ha hF
        generalize a.eval = ρ at *
        simp [execOp, go_sem, e0, hb2, k0, k1, k2, k3, hc, hfn]
      | 23, ho =>
        obtain rfl := Option.some.inj ho
        clear ho
        intro vals w1 a hg hF ha
        have f0 : vals 18 = .bool st.refs := hF 18 (mem_ancs (by kernel_rfl))
        have e0 : a.eval (.tmp 77) = .bool st.refs := ((ha (.tmp 77) (by simp [Op.operands, Call.operands])).trans rfl).trans f0
        have f1 : vals 22 = .bool st.refs := hF 22 (mem_ancs (by kernel_rfl))
        have e1 : a.eval (.tmp 81) = .bool st.refs := ((ha (.tmp 81) (by simp [Op.operands, Call.operands])).trans rfl).trans f1
        have g0 : vals 16 = .bool false := hF 16 (mem_ancs (by kernel_rfl))
        refine (if_pos (by simp [wantedV, g0])).mpr (.inl ?_)
        refine wp_value (v := .bool false) ?_ ⟨_, rfl, rfl, Below.refl _ _⟩
        have hc : ∀ v, a.eval (.const v) = v := fun _ => rfl
        have hfn : ∀ f, a.eval (.func f) = .func (.func f) #[] #[] := fun _ => rfl
        clear ha hF
        generalize a.eval = ρ at *
        simp [execOp, go_sem, e0, e1, hc, hfn]
      | 24, ho =>
        obtain rfl := Option.some.inj ho
        clear ho
        intro vals w1 a hg hF ha
        have f0 : vals 16 = .bool false := hF 16 (mem_ancs (by kernel_rfl))
        have e0 : a.eval (.tmp 75) = .bool false := ((ha (.tmp 75) (by simp [Op.operands, Call.operands])).trans rfl).trans f0
        have f1 : vals 23 = .bool false := hF 23 (mem_ancs (by kernel_rfl))
        have e1 : a.eval (.tmp 82) = .bool false := ((ha (.tmp 82) (by simp [Op.operands, Call.operands])).trans rfl).trans f1
        refine (if_pos rfl).mpr (.inl ?_)
        refine wp_value (v := .bool false) ?_ ⟨_, rfl, rfl, Below.refl _ _⟩
        have hc : ∀ v, a.eval (.const v) = v := fun _ => rfl
        have hfn : ∀ f, a.eval (.func f) = .func (.func f) #[] #[] := fun _ => rfl
        clear ha hF
        generalize a.eval = ρ at *
        simp [execOp, go_sem, e0, e1, hc, hfn]
      | 25, ho =>
        obtain rfl := Option.some.inj ho
        clear ho
        intro vals w1 a hg hF ha
        have f0 : vals 24 = .bool false := hF 24 (mem_ancs (by kernel_rfl))
        have e0 : a.eval (.tmp 83) = .bool false := ((ha (.tmp 83) (by simp [Op.operands, Call.operands])).trans rfl).trans f0
        refine (if_pos rfl).mpr (.inl ?_)
        refine wp_value (v := .bool false) ?_ ⟨_, rfl, rfl, Below.refl _ _⟩
        have hc : ∀ v, a.eval (.const v) = v := fun _ => rfl
        have hfn : ∀ f, a.eval (.func f) = .func (.func f) #[] #[] := fun _ => rfl
        clear ha hF
        generalize a.eval = ρ at *
        simp [execOp, go_sem, e0, hc, hfn]
      | 26, ho =>
        obtain rfl := Option.some.inj ho
        clear ho
        intro vals w1 a hg hF ha
        have e0 : a.eval (.tmp 3) = .pointer (some ⟨b1, 1, none⟩) := (ha (.tmp 3) (by simp [Op.operands, Call.operands])).trans rfl
        have g0 : vals 25 = .bool false := hF 25 (mem_ancs (by kernel_rfl))
        refine (if_pos (by simp [wantedV, g0])).mpr (.inl ?_)
        refine wp_value (v := .pointer (some ⟨b1, 1, none⟩)) ?_ ⟨_, rfl, rfl, Below.refl _ _⟩
        have hc : ∀ v, a.eval (.const v) = v := fun _ => rfl
        have hfn : ∀ f, a.eval (.func f) = .func (.func f) #[] #[] := fun _ => rfl
        clear ha hF
        generalize a.eval = ρ at *
        simp [execOp, go_sem, e0, hc, hfn]
      | 27, ho =>
        obtain rfl := Option.some.inj ho
        clear ho
        intro vals w1 a hg hF ha
        have f0 : vals 26 = .pointer (some ⟨b1, 1, none⟩) := hF 26 (mem_ancs (by kernel_rfl))
        have e0 : a.eval (.tmp 85) = .pointer (some ⟨b1, 1, none⟩) := ((ha (.tmp 85) (by simp [Op.operands, Call.operands])).trans rfl).trans f0
        have g0 : vals 25 = .bool false := hF 25 (mem_ancs (by kernel_rfl))
        refine (if_pos (by simp [wantedV, g0])).mpr (.inl ?_)
        refine wp_calls (f := 9) (args := #[.pointer (some ⟨b1, 1, none⟩)]) (w1 := w1) (w' := w1) (v := .int .i64 st.many) ?_ (parts_said w1 _ _ _ _ _ (hP.below hg)) ⟨_, rfl, rfl, Below.refl _ _⟩
        have hc : ∀ v, a.eval (.const v) = v := fun _ => rfl
        have hfn : ∀ f, a.eval (.func f) = .func (.func f) #[] #[] := fun _ => rfl
        clear ha hF
        generalize a.eval = ρ at *
        simp [execOp, go_sem, e0, hc, hfn]
      | 28, ho =>
        obtain rfl := Option.some.inj ho
        clear ho
        intro vals w1 a hg hF ha
        have e0 : a.eval (.tmp 5) = .pointer (some ⟨b2, 0, none⟩) := (ha (.tmp 5) (by simp [Op.operands, Call.operands])).trans rfl
        have g0 : vals 25 = .bool false := hF 25 (mem_ancs (by kernel_rfl))
        refine (if_pos (by simp [wantedV, g0])).mpr (.inl ?_)
        refine wp_value (v := .pointer (some ⟨b2, 0, none⟩)) ?_ ⟨_, rfl, rfl, Below.refl _ _⟩
        have hc : ∀ v, a.eval (.const v) = v := fun _ => rfl
        have hfn : ∀ f, a.eval (.func f) = .func (.func f) #[] #[] := fun _ => rfl
        clear ha hF
        generalize a.eval = ρ at *
        simp [execOp, go_sem, e0, hc, hfn]
      | 29, ho =>
        obtain rfl := Option.some.inj ho
        clear ho
        intro vals w1 a hg hF ha
        have f0 : vals 28 = .pointer (some ⟨b2, 0, none⟩) := hF 28 (mem_ancs (by kernel_rfl))
        have e0 : a.eval (.tmp 87) = .pointer (some ⟨b2, 0, none⟩) := ((ha (.tmp 87) (by simp [Op.operands, Call.operands])).trans rfl).trans f0
        have g0 : vals 25 = .bool false := hF 25 (mem_ancs (by kernel_rfl))
        refine (if_pos (by simp [wantedV, g0])).mpr (.inl ?_)
        refine wp_value (v := .pointer (some ⟨b2, 0, none⟩)) ?_ ⟨_, rfl, rfl, Below.refl _ _⟩
        have hc : ∀ v, a.eval (.const v) = v := fun _ => rfl
        have hfn : ∀ f, a.eval (.func f) = .func (.func f) #[] #[] := fun _ => rfl
        clear ha hF
        generalize a.eval = ρ at *
        simp [execOp, go_sem, e0, hc, hfn]
      | 30, ho =>
        obtain rfl := Option.some.inj ho
        clear ho
        intro vals w1 a hg hF ha
        have f0 : vals 29 = .pointer (some ⟨b2, 0, none⟩) := hF 29 (mem_ancs (by kernel_rfl))
        have e0 : a.eval (.tmp 88) = .pointer (some ⟨b2, 0, none⟩) := ((ha (.tmp 88) (by simp [Op.operands, Call.operands])).trans rfl).trans f0
        have g0 : vals 25 = .bool false := hF 25 (mem_ancs (by kernel_rfl))
        refine (if_pos (by simp [wantedV, g0])).mpr (.inl ?_)
        refine wp_value (v := .pointer (some ⟨b2, 2, none⟩)) ?_ ⟨_, rfl, rfl, Below.refl _ _⟩
        have hc : ∀ v, a.eval (.const v) = v := fun _ => rfl
        have hfn : ∀ f, a.eval (.func f) = .func (.func f) #[] #[] := fun _ => rfl
        clear ha hF
        generalize a.eval = ρ at *
        simp [execOp, go_sem, e0, hc, hfn]
      | 31, ho =>
        obtain rfl := Option.some.inj ho
        clear ho
        intro vals w1 a hg hF ha
        have f0 : vals 30 = .pointer (some ⟨b2, 2, none⟩) := hF 30 (mem_ancs (by kernel_rfl))
        have e0 : a.eval (.tmp 89) = .pointer (some ⟨b2, 2, none⟩) := ((ha (.tmp 89) (by simp [Op.operands, Call.operands])).trans rfl).trans f0
        have g0 : vals 25 = .bool false := hF 25 (mem_ancs (by kernel_rfl))
        refine (if_pos (by simp [wantedV, g0])).mpr (.inl ?_)
        obtain ⟨hb2, k0, k1, k2, k3⟩ := re_cells (show w1.heap[b2]? = _ from (hg.block b2 hlb2).trans HQ2.out)
        refine wp_value (v := .int .i64 st.many) ?_ ⟨_, rfl, rfl, Below.refl _ _⟩
        have hc : ∀ v, a.eval (.const v) = v := fun _ => rfl
        have hfn : ∀ f, a.eval (.func f) = .func (.func f) #[] #[] := fun _ => rfl
        clear ha hF
        generalize a.eval = ρ at *
        simp [execOp, go_sem, e0, hb2, k0, k1, k2, k3, hc, hfn]
      | 32, ho =>
        obtain rfl := Option.some.inj ho
        clear ho
        intro vals w1 a hg hF ha
        have f0 : vals 27 = .int .i64 st.many := hF 27 (mem_ancs (by kernel_rfl))
        have e0 : a.eval (.tmp 86) = .int .i64 st.many := ((ha (.tmp 86) (by simp [Op.operands, Call.operands])).trans rfl).trans f0
        have f1 : vals 31 = .int .i64 st.many := hF 31 (mem_ancs (by kernel_rfl))
        have e1 : a.eval (.tmp 90) = .int .i64 st.many := ((ha (.tmp 90) (by simp [Op.operands, Call.operands])).trans rfl).trans f1
        have g0 : vals 25 = .bool false := hF 25 (mem_ancs (by kernel_rfl))
        refine (if_pos (by simp [wantedV, g0])).mpr (.inl ?_)
        refine wp_value (v := .bool false) ?_ ⟨_, rfl, rfl, Below.refl _ _⟩
        have hc : ∀ v, a.eval (.const v) = v := fun _ => rfl
        have hfn : ∀ f, a.eval (.func f) = .func (.func f) #[] #[] := fun _ => rfl
        clear ha hF
        generalize a.eval = ρ at *
        simp [execOp, go_sem, e0, e1, hc, hfn]
      | 33, ho =>
        obtain rfl := Option.some.inj ho
        clear ho
        intro vals w1 a hg hF ha
        have f0 : vals 25 = .bool false := hF 25 (mem_ancs (by kernel_rfl))
        have e0 : a.eval (.tmp 84) = .bool false := ((ha (.tmp 84) (by simp [Op.operands, Call.operands])).trans rfl).trans f0
        have f1 : vals 32 = .bool false := hF 32 (mem_ancs (by kernel_rfl))
        have e1 : a.eval (.tmp 91) = .bool false := ((ha (.tmp 91) (by simp [Op.operands, Call.operands])).trans rfl).trans f1
        refine (if_pos rfl).mpr (.inl ?_)
        refine wp_value (v := .bool false) ?_ ⟨_, rfl, rfl, Below.refl _ _⟩
        have hc : ∀ v, a.eval (.const v) = v := fun _ => rfl
        have hfn : ∀ f, a.eval (.func f) = .func (.func f) #[] #[] := fun _ => rfl
        clear ha hF
        generalize a.eval = ρ at *
        simp [execOp, go_sem, e0, e1, hc, hfn]
      | n + 34, ho => simp at ho
    · intro vals w2 hB hG hV
      have v33 : vals 33 = .bool false := hV 33 (by decide)
      simp only [putList, Act.put, List.setIfInBounds_toArray, List.set_cons_zero, List.set_cons_succ, Nat.zero_add, Nat.reduceAdd]
      go_wp2_with fail
      go_meet
      exact ⟨v33, ⟨hB.os, hB.tape, hB.output, hB.size, hB.block⟩⟩
  case rest =>
    obtain ⟨rfl, hBc⟩ := hcut
    obtain ⟨g, hga⟩ : ∃ g, fo.tops.length ≠ 0 → a2 = some ⟨g, 0, none⟩ := by
      rcases hown.2 with ⟨_, h2⟩ | ⟨g, cap, cur, hv, _⟩
      · exact ⟨0, fun h => absurd h2 h⟩
      · cases hv; exact ⟨g, fun _ => rfl⟩
    have howc := own_keepB hown hBc
    have hkidc : ∀ (j : Nat) (kv : Value), ks[j]? = some kv → Rep (NewB w2.heap.size (Value.slice a2 fo.tops.length c2).ownBlock wc) 41 wc kv (fo.kidsAt j) := fun j kv hk => (hkid j kv hk).new fun k _ hk _ => hBc.block k hk
    have hB2c := hB3.trans (hBc.mono hB3.size)
    have HP2B := Lib.hid hP2
    have HR9 := Lib.hid ((hR12.mono (D' := fun j => j < w2.heap.size) fun _ _ h => h).keep (Keep.ofBelow hB2c))
    have HRa := Lib.hid ((HR22.out.mono (D' := fun j => j < w2.heap.size) fun _ _ h => h).keep (Keep.ofBelow hB2c))
    have HKID := Lib.hid hkidc
    have HB2c := Lib.hid hB2c
    have HBa := Lib.hid hBa
    have HOW := Lib.hid howc
    have HKL := Lib.hid hkl
    have hn9 : fo.tops.length ≤ 1000 := Nat.le_trans (Fo.tops_size fo) hz
    clear HR2 HR3 HQ2 HT hkid hkidc hkl hown howc hBc hP hP2 hR12 hR1 hP1 hB3 hlb2 hB2c
    go_wp2_with fail
    go_loopw [8] (fun v wr => ∃ i : Nat, v = .int .i64 i ∧ i ≤ fo.tops.length ∧ Kp w2.heap.size g wc wr) (fun v _ => match v with | .int _ i => fo.tops.length - i.toNat | _ => 0)
    case atStart => exact ⟨0, rfl, Nat.zero_le _, Kp.refl _ _ _⟩
    case round =>
      obtain ⟨i, rfl, hi, hK⟩ := hrel
      by_cases hlt : i < fo.tops.length
      · have hlt2 : (i : Int) < (fo.tops.length : Int) := by omega
        obtain rfl := hga (by omega)
        obtain ⟨kv, hkv⟩ : ∃ kv, ks[i]? = some kv := ⟨_, List.getElem?_eq_getElem (by rw [HKL.out]; exact hlt)⟩
        have hcell := kid_cell HOW.out HKL.out hkv
        have hRk := HKID.out i kv hkv
        obtain ⟨kvs, hAt, hKK⟩ := hRk
        obtain ⟨hkk, ak, ck, rfl, hck, hpk⟩ := hAt
        have hgc := lt_of_cell hcell
        have hfg := own_free HOW.out rfl
        have HC := Lib.hid hcell
        have hBg := (HOW.out.lt g rfl).1
        have HPK := Lib.hid hpk
        have HKK := Lib.hid hkk
        have hsz : i * 262 < i * 262 + 261 := by omega
        have hgs : ∃ cs e fr, wc.heap[g]? = some (Obj.cells cs e fr) ∧ i * 262 < cs.size := by
          rcases HOW.out.2 with ⟨h1, _⟩ | ⟨g', cap, cur, hv, _, hh, _, _, _, ht⟩
          · cases h1
          · cases hv
            refine ⟨cur, _, _, hh, ?_⟩
            have h1 : (cur.toList.take (fo.tops.length * 262)).length = fo.tops.length * 262 := by rw [ht, ndsL_length _ _ HKL.out]
            rw [List.length_take] at h1
            simp at h1
            omega
        have HGS := Lib.hid hgs
        clear hcell hkv hKK hkk hck hpk hgs
        go_wp2_with fail
        go_loopw [9] (fun v wr2 => ∃ k : Nat, v = .int .i64 k ∧ k ≤ (fo.kidsAt i).tops.length ∧ Kp w2.heap.size g wc wr2) (fun v _ => match v with | .int _ k => (fo.kidsAt i).tops.length - k.toNat | _ => 0)
        case atStart => exact ⟨0, rfl, Nat.zero_le _, hK⟩
        case round =>
          obtain ⟨k, rfl, hk, hK2⟩ := hrel
          have hcell2 := (hK2.kids i).trans HC.out
          have hg2 := lt_of_cell hcell2
          by_cases hkt : k < (fo.kidsAt i).tops.length
          · have hkt2 : (k : Int) < ((fo.kidsAt i).tops.length : Int) := by omega
            obtain ⟨b, o, cs, fr, hD, rfl, hhb, htk⟩ : ∃ b o cs fr, NewB w2.heap.size (some g) wc b ∧ ak = some ⟨b, o, none⟩ ∧ wc.heap[b]? = some (.cells cs 41 fr) ∧ (cs.toList.drop o).take ((fo.kidsAt i).tops.length * 262) = ndsL (fo.kidsAt i).tops kvs := by
              rcases HPK.out with h | h
              · rw [h] at hkt; simp at hkt
              · exact h
            have hkn : (fo.kidsAt i).tops.length ≤ 1000 := by have := Fo.kids_size fo i hlt; have := Fo.tops_size (fo.kidsAt i); omega
            have hos : o + k * 262 < cs.size := by
              have h1 : ((cs.toList.drop o).take ((fo.kidsAt i).tops.length * 262)).length = (fo.kidsAt i).tops.length * 262 := by rw [htk, ndsL_length _ _ HKK.out]
              rw [List.length_take, List.length_drop] at h1
              simp at h1
              omega
            obtain ⟨hb9, y, hy⟩ := hK2.cell hhb hos
            have hfz : wr.frozen? ⟨b, o + k * 262, none⟩ = false := (hK2.froz _).trans (hD.2.2 _)
            have HD := Lib.hid hD
            clear htk hhb hD
            go_wp2_with fail
            go_roundw
            case rel => exact ⟨k + 1, by simp, hkt, hK2.step HD.out.1 fun e => absurd (by rw [e]) HD.out.2.1⟩
            case measure => simp only [Int.toNat_natCast, Int.toNat_natCast_add_one]; omega
          · have hkt2 : ¬ (k : Int) < ((fo.kidsAt i).tops.length : Int) := by omega
            obtain ⟨cs, e, fr, hh, hlt3⟩ := HGS.out
            obtain ⟨hg3, y, hy⟩ := hK2.cell hh hlt3
            have hfz : wr.frozen? ⟨g, i * 262, none⟩ = false := (hK2.froz _).trans (hfg _)
            go_wp2_with fail
            go_roundw
            case rel => exact ⟨i + 1, by simp, hlt, hK2.step hBg fun _ j => by omega⟩
            case measure => simp only [Int.toNat_natCast, Int.toNat_natCast_add_one]; omega
      · have hlt2 : ¬ (i : Int) < (fo.tops.length : Int) := by omega
        have hBr := HB2c.out.trans hK.below
        have hB9 := HBa.out.trans (hBr.mono HBa.out.size)
        have hP9 : PB wr b1 v1 st.g st.many st.refs := by
          obtain ⟨s9, ov9, h9⟩ := HP2B.out
          exact ⟨s9, ov9, (hBr.block b1 (lt_of_heap h9)).trans h9⟩
        have HQ9 := Lib.hid ((hBr.block b2 (lt_of_heap HQ.out)).trans HQ.out)
        have HR8 := Lib.hid (HRa.out.keep (Keep.ofBelowAt hK.below))
        have HR9 := Lib.hid (HR9.out.keep (Keep.ofBelowAt hK.below))
        have hE9 := hE.below hB9 h4
        have h49 : 4 ≤ wr.heap.size := Nat.le_trans h4 hB9.size
        go_wp2_with fail
        refine wp_region_vals (by kernel_rfl) (fun i v w2 => match i with | 0 => v = .pointer (some ⟨b1, 1, none⟩) | 1 => Rep (fun _ => True) 41 w2 v fo | 2 => v = .pointer (some ⟨b2, 0, none⟩) | 3 => v = .pointer (some ⟨b2, 0, none⟩) | 4 => v = .pointer (some ⟨b2, 0, none⟩) | 5 => v = v2 | 6 => v = .bool true | 7 => v = .bool true | 8 => v = .bool true | 9 => v = .bool true | 10 => v = .bool true | _ => True)
          (fun w2 => Below wr.heap.size wr w2) (by kernel_rfl) (by kernel_rfl) (by kernel_rfl) ?_ (⟨rfl, rfl, rfl, Nat.le_refl _, fun _ _ => rfl⟩) (fun w1 w2 h1 h2 => h1.trans (h2.mono h1.size)) ?_ ?_
        · intro i v w1 w2 h hB
          match i, h with
          | 0, h => exact h
          | 1, h => exact h.keep (Keep.ofBelow hB)
          | 2, h => exact h
          | 3, h => exact h
          | 4, h => exact h
          | 5, h => exact h
          | 6, h => exact h
          | 7, h => exact h
          | 8, h => exact h
          | 9, h => exact h
          | 10, h => exact h
          | n + 11, h => trivial
        · intro i o ho
          match i, ho with
          | 0, ho =>
            obtain rfl := Option.some.inj ho
            clear ho
            intro vals w1 a hg hF ha
            have e0 : a.eval (.tmp 3) = .pointer (some ⟨b1, 1, none⟩) := (ha (.tmp 3) (by simp [Op.operands, Call.operands])).trans rfl
            refine (if_pos rfl).mpr (.inl ?_)
            refine wp_value (v := .pointer (some ⟨b1, 1, none⟩)) ?_ ⟨_, rfl, rfl, Below.refl _ _⟩
            have hc : ∀ v, a.eval (.const v) = v := fun _ => rfl
            have hfn : ∀ f, a.eval (.func f) = .func (.func f) #[] #[] := fun _ => rfl
            clear ha hF
            generalize a.eval = ρ at *
            simp [execOp, go_sem, e0, hc, hfn]
          | 1, ho =>
            obtain rfl := Option.some.inj ho
            clear ho
            intro vals w1 a hg hF ha
            have f0 : vals 0 = .pointer (some ⟨b1, 1, none⟩) := hF 0 (mem_ancs (by kernel_rfl))
            have e0 : a.eval (.tmp 121) = .pointer (some ⟨b1, 1, none⟩) := ((ha (.tmp 121) (by simp [Op.operands, Call.operands])).trans rfl).trans f0
            refine (if_pos rfl).mpr (.inl ?_)
            refine wp_callE (f := 6) (args := #[.pointer (some ⟨b1, 1, none⟩)]) (w1 := w1) ?_ ((tree_said w1 b1 v1 _ _ _ fo _ (hP9.below hg) (HR9.out.keep (Keep.ofBelow hg)) hz).mono ?_)
            rotate_left
            · rintro e w2 ⟨v', ks, rfl, hown, hkl, hkid, hB⟩
              exact ⟨_, rfl, _, rfl, (TwinOut.rep hown hkl hkid).mono fun _ _ _ => trivial, hB⟩
            have hc : ∀ v, a.eval (.const v) = v := fun _ => rfl
            have hfn : ∀ f, a.eval (.func f) = .func (.func f) #[] #[] := fun _ => rfl
            clear ha hF
            generalize a.eval = ρ at *
            simp [execOp, go_sem, e0, hc, hfn]
          | 2, ho =>
            obtain rfl := Option.some.inj ho
            clear ho
            intro vals w1 a hg hF ha
            have e0 : a.eval (.tmp 5) = .pointer (some ⟨b2, 0, none⟩) := (ha (.tmp 5) (by simp [Op.operands, Call.operands])).trans rfl
            refine (if_pos rfl).mpr (.inl ?_)
            refine wp_value (v := .pointer (some ⟨b2, 0, none⟩)) ?_ ⟨_, rfl, rfl, Below.refl _ _⟩
            have hc : ∀ v, a.eval (.const v) = v := fun _ => rfl
            have hfn : ∀ f, a.eval (.func f) = .func (.func f) #[] #[] := fun _ => rfl
            clear ha hF
            generalize a.eval = ρ at *
            simp [execOp, go_sem, e0, hc, hfn]
          | 3, ho =>
            obtain rfl := Option.some.inj ho
            clear ho
            intro vals w1 a hg hF ha
            have f0 : vals 2 = .pointer (some ⟨b2, 0, none⟩) := hF 2 (mem_ancs (by kernel_rfl))
            have e0 : a.eval (.tmp 123) = .pointer (some ⟨b2, 0, none⟩) := ((ha (.tmp 123) (by simp [Op.operands, Call.operands])).trans rfl).trans f0
            refine (if_pos rfl).mpr (.inl ?_)
            refine wp_value (v := .pointer (some ⟨b2, 0, none⟩)) ?_ ⟨_, rfl, rfl, Below.refl _ _⟩
            have hc : ∀ v, a.eval (.const v) = v := fun _ => rfl
            have hfn : ∀ f, a.eval (.func f) = .func (.func f) #[] #[] := fun _ => rfl
            clear ha hF
            generalize a.eval = ρ at *
            simp [execOp, go_sem, e0, hc, hfn]
          | 4, ho =>
            obtain rfl := Option.some.inj ho
            clear ho
            intro vals w1 a hg hF ha
            have f0 : vals 3 = .pointer (some ⟨b2, 0, none⟩) := hF 3 (mem_ancs (by kernel_rfl))
            have e0 : a.eval (.tmp 124) = .pointer (some ⟨b2, 0, none⟩) := ((ha (.tmp 124) (by simp [Op.operands, Call.operands])).trans rfl).trans f0
            refine (if_pos rfl).mpr (.inl ?_)
            refine wp_value (v := .pointer (some ⟨b2, 0, none⟩)) ?_ ⟨_, rfl, rfl, Below.refl _ _⟩
            have hc : ∀ v, a.eval (.const v) = v := fun _ => rfl
            have hfn : ∀ f, a.eval (.func f) = .func (.func f) #[] #[] := fun _ => rfl
            clear ha hF
            generalize a.eval = ρ at *
            simp [execOp, go_sem, e0, hc, hfn]
          | 5, ho =>
            obtain rfl := Option.some.inj ho
            clear ho
            intro vals w1 a hg hF ha
            have f0 : vals 4 = .pointer (some ⟨b2, 0, none⟩) := hF 4 (mem_ancs (by kernel_rfl))
            have e0 : a.eval (.tmp 125) = .pointer (some ⟨b2, 0, none⟩) := ((ha (.tmp 125) (by simp [Op.operands, Call.operands])).trans rfl).trans f0
            refine (if_pos rfl).mpr (.inl ?_)
            obtain ⟨hb2, k0, k1, k2, k3⟩ := re_cells (show w1.heap[b2]? = _ from (hg.block b2 (lt_of_heap HQ9.out)).trans HQ9.out)
            refine wp_value (v := v2) ?_ ⟨_, rfl, rfl, Below.refl _ _⟩
            have hc : ∀ v, a.eval (.const v) = v := fun _ => rfl
            have hfn : ∀ f, a.eval (.func f) = .func (.func f) #[] #[] := fun _ => rfl
            clear ha hF
            generalize a.eval = ρ at *
            simp [execOp, go_sem, e0, hb2, k0, hc, hfn]
          | 6, ho =>
            obtain rfl := Option.some.inj ho
            clear ho
            intro vals w1 a hg hF ha
            have f0 : Rep (fun _ => True) 41 w1 (vals 1) fo := hF 1 (mem_ancs (by kernel_rfl))
            have f1 : vals 5 = v2 := hF 5 (mem_ancs (by kernel_rfl))
            have e0 : a.eval (.tmp 122) = vals 1 := (ha (.tmp 122) (by simp [Op.operands, Call.operands])).trans rfl
            have e1 : a.eval (.tmp 126) = v2 := ((ha (.tmp 126) (by simp [Op.operands, Call.operands])).trans rfl).trans f1
            refine (if_pos rfl).mpr (.inl ?_)
            refine wp_callE (f := 11) (args := #[vals 1, v2]) (w1 := w1) ?_ ((same_said (fo.size + 1) fo w1 _ v2 _ _ (by omega) hz f0 (HR8.out.keep (Keep.ofBelow hg))).mono ?_)
            rotate_left
            · rintro e w2 ⟨rfl, hB⟩
              exact ⟨_, rfl, _, rfl, rfl, hB⟩
            have hc : ∀ v, a.eval (.const v) = v := fun _ => rfl
            have hfn : ∀ f, a.eval (.func f) = .func (.func f) #[] #[] := fun _ => rfl
            clear ha hF
            generalize a.eval = ρ at *
            simp [execOp, go_sem, e0, e1, hc, hfn]
          | 7, ho =>
            obtain rfl := Option.some.inj ho
            clear ho
            intro vals w1 a hg hF ha
            have f0 : vals 6 = .bool true := hF 6 (mem_ancs (by kernel_rfl))
            have e0 : a.eval (.tmp 127) = .bool true := ((ha (.tmp 127) (by simp [Op.operands, Call.operands])).trans rfl).trans f0
            refine (if_pos rfl).mpr (.inl ?_)
            refine wp_value (v := .bool true) ?_ ⟨_, rfl, rfl, Below.refl _ _⟩
            have hc : ∀ v, a.eval (.const v) = v := fun _ => rfl
            have hfn : ∀ f, a.eval (.func f) = .func (.func f) #[] #[] := fun _ => rfl
            clear ha hF
            generalize a.eval = ρ at *
            simp [execOp, go_sem, e0, hc, hfn]
          | 8, ho =>
            obtain rfl := Option.some.inj ho
            clear ho
            intro vals w1 a hg hF ha
            have g0 : vals 7 = .bool true := hF 7 (mem_ancs (by kernel_rfl))
            refine (if_pos (by simp [wantedV, g0])).mpr (.inl ?_)
            refine wp_callE (f := 10) (args := #[]) (w1 := w1) ?_ ((does_said hcls w1 (hE9.below hg h49) (Nat.le_trans h49 hg.size)).mono ?_)
            rotate_left
            · rintro e w2 ⟨rfl, hB⟩
              exact ⟨_, rfl, _, rfl, rfl, hB⟩
            have hc : ∀ v, a.eval (.const v) = v := fun _ => rfl
            have hfn : ∀ f, a.eval (.func f) = .func (.func f) #[] #[] := fun _ => rfl
            clear ha hF
            generalize a.eval = ρ at *
            simp [execOp, go_sem, hc, hfn]
          | 9, ho =>
            obtain rfl := Option.some.inj ho
            clear ho
            intro vals w1 a hg hF ha
            have f0 : vals 7 = .bool true := hF 7 (mem_ancs (by kernel_rfl))
            have e0 : a.eval (.tmp 128) = .bool true := ((ha (.tmp 128) (by simp [Op.operands, Call.operands])).trans rfl).trans f0
            have f1 : vals 8 = .bool true := hF 8 (mem_ancs (by kernel_rfl))
            have e1 : a.eval (.tmp 129) = .bool true := ((ha (.tmp 129) (by simp [Op.operands, Call.operands])).trans rfl).trans f1
            refine (if_pos rfl).mpr (.inl ?_)
            refine wp_value (v := .bool true) ?_ ⟨_, rfl, rfl, Below.refl _ _⟩
            have hc : ∀ v, a.eval (.const v) = v := fun _ => rfl
            have hfn : ∀ f, a.eval (.func f) = .func (.func f) #[] #[] := fun _ => rfl
            clear ha hF
            generalize a.eval = ρ at *
            simp [execOp, go_sem, e0, e1, hc, hfn]
          | 10, ho =>
            obtain rfl := Option.some.inj ho
            clear ho
            intro vals w1 a hg hF ha
            have f0 : vals 9 = .bool true := hF 9 (mem_ancs (by kernel_rfl))
            have e0 : a.eval (.tmp 130) = .bool true := ((ha (.tmp 130) (by simp [Op.operands, Call.operands])).trans rfl).trans f0
            refine (if_pos rfl).mpr (.inl ?_)
            refine wp_value (v := .bool true) ?_ ⟨_, rfl, rfl, Below.refl _ _⟩
            have hc : ∀ v, a.eval (.const v) = v := fun _ => rfl
            have hfn : ∀ f, a.eval (.func f) = .func (.func f) #[] #[] := fun _ => rfl
            clear ha hF
            generalize a.eval = ρ at *
            simp [execOp, go_sem, e0, hc, hfn]
          | n + 11, ho => simp at ho
        · intro vals w2 hB hG hV
          simp only [putList, Act.put, List.setIfInBounds_toArray, List.set_cons_zero, List.set_cons_succ, Nat.zero_add, Nat.reduceAdd]
          have v10 : vals 10 = .bool true := hV 10 (by decide)
          rw [v10]
          go_wp2_with fail
          go_ret
          exact ⟨rfl, hB9.trans (Below.mono ⟨hB.os, hB.tape, hB.output, hB.size, hB.block⟩ hB9.size)⟩
end Go.Proofs.YtkbfckigndkkkaaDoor
