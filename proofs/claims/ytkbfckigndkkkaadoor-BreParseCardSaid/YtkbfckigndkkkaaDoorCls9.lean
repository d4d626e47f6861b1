/-
  Walk: the classes that have names.
-/
import Derived.Test.YtkbfckigndkkkaaDoorCls7
import Derived.Test.YtkbfckigndkkkaaDoorCls3
import Derived.Laws.EntriesVeiled
namespace Go.Proofs.YtkbfckigndkkkaaDoor
set_option linter.unusedSimpArgs false
set_option linter.unusedVariables false
open Go Go.RowKit

def namedV (N B : Nat) (i : Nat) (x v : Value) (w2 : World) : Prop :=
  match i with
  | 0 => ∃ m, v = .map (some m) ∧ MapG N B w2 m
  | 1 => IsV N w2 v (between 97 122)
  | 2 => ∀ m, x = .map (some m) → MapH w2 m (ByteArray.mk #[108, 111, 119, 101, 114])
  | 3 => IsV N w2 v (between 65 90)
  | 4 => ∀ m, x = .map (some m) → MapH w2 m (ByteArray.mk #[117, 112, 112, 101, 114])
  | 5 => IsV N w2 v (between 48 57)
  | 6 => ∀ m, x = .map (some m) → MapH w2 m (ByteArray.mk #[100, 105, 103, 105, 116])
  | 7 => IsV N w2 v ((fun c => between 97 122 c || between 65 90 c || between 48 57 c))
  | 8 => ∀ m, x = .map (some m) → MapH w2 m (ByteArray.mk #[97, 108, 110, 117, 109])
  | 9 => IsV N w2 v (between 33 126)
  | 10 => ∀ m, x = .map (some m) → MapH w2 m (ByteArray.mk #[103, 114, 97, 112, 104])
  | 11 => IsV N w2 v (between 97 122)
  | 12 => IsV N w2 v (between 65 90)
  | 13 => SliceV N w2 v [between 97 122, between 65 90]
  | 14 => IsV N w2 v (anyF [between 97 122, between 65 90])
  | 15 => ∀ m, x = .map (some m) → MapH w2 m (ByteArray.mk #[97, 108, 112, 104, 97])
  | 16 => IsV N w2 v (between 48 57)
  | 17 => IsV N w2 v (between 97 102)
  | 18 => IsV N w2 v (between 65 70)
  | 19 => SliceV N w2 v [between 48 57, between 97 102, between 65 70]
  | 20 => IsV N w2 v (anyF [between 48 57, between 97 102, between 65 70])
  | 21 => ∀ m, x = .map (some m) → MapH w2 m (ByteArray.mk #[120, 100, 105, 103, 105, 116])
  | 22 => IsV N w2 v (between 9 13)
  | 23 => IsV N w2 v (between 32 32)
  | 24 => SliceV N w2 v [between 9 13, between 32 32]
  | 25 => IsV N w2 v (anyF [between 9 13, between 32 32])
  | 26 => ∀ m, x = .map (some m) → MapH w2 m (ByteArray.mk #[115, 112, 97, 99, 101])
  | 27 => IsV N w2 v (between 9 9)
  | 28 => IsV N w2 v (between 32 32)
  | 29 => SliceV N w2 v [between 9 9, between 32 32]
  | 30 => IsV N w2 v (anyF [between 9 9, between 32 32])
  | 31 => ∀ m, x = .map (some m) → MapH w2 m (ByteArray.mk #[98, 108, 97, 110, 107])
  | 32 => IsV N w2 v (between 0 31)
  | 33 => IsV N w2 v (between 127 127)
  | 34 => SliceV N w2 v [between 0 31, between 127 127]
  | 35 => IsV N w2 v (anyF [between 0 31, between 127 127])
  | 36 => ∀ m, x = .map (some m) → MapH w2 m (ByteArray.mk #[99, 110, 116, 114, 108])
  | 37 => IsV N w2 v (between 32 126)
  | 38 => ∀ m, x = .map (some m) → MapH w2 m (ByteArray.mk #[112, 114, 105, 110, 116])
  | 39 => IsV N w2 v ((fun c => between 33 126 c && !(fun c => between 97 122 c || between 65 90 c || between 48 57 c) c))
  | 40 => ∀ m, x = .map (some m) → MapH w2 m (ByteArray.mk #[112, 117, 110, 99, 116])
  | 41 => v = x
  | 42 => v = x
  | _ => True
theorem namedV_step (N B : Nat) (i : Nat) (x v : Value) (w w' : World) (h : namedV N B i x v w) (hs : Step N B w w') : namedV N B i x v w' := by
  unfold namedV at h ⊢
  match i, h with
  | 0, h => exact let ⟨m, h1, h2⟩ := h; ⟨m, h1, h2.step hs⟩
  | 1, h => exact h.step hs
  | 2, h => exact fun m hm => (h m hm).step hs
  | 3, h => exact h.step hs
  | 4, h => exact fun m hm => (h m hm).step hs
  | 5, h => exact h.step hs
  | 6, h => exact fun m hm => (h m hm).step hs
  | 7, h => exact h.step hs
  | 8, h => exact fun m hm => (h m hm).step hs
  | 9, h => exact h.step hs
  | 10, h => exact fun m hm => (h m hm).step hs
  | 11, h => exact h.step hs
  | 12, h => exact h.step hs
  | 13, h => exact h.step hs
  | 14, h => exact h.step hs
  | 15, h => exact fun m hm => (h m hm).step hs
  | 16, h => exact h.step hs
  | 17, h => exact h.step hs
  | 18, h => exact h.step hs
  | 19, h => exact h.step hs
  | 20, h => exact h.step hs
  | 21, h => exact fun m hm => (h m hm).step hs
  | 22, h => exact h.step hs
  | 23, h => exact h.step hs
  | 24, h => exact h.step hs
  | 25, h => exact h.step hs
  | 26, h => exact fun m hm => (h m hm).step hs
  | 27, h => exact h.step hs
  | 28, h => exact h.step hs
  | 29, h => exact h.step hs
  | 30, h => exact h.step hs
  | 31, h => exact fun m hm => (h m hm).step hs
  | 32, h => exact h.step hs
  | 33, h => exact h.step hs
  | 34, h => exact h.step hs
  | 35, h => exact h.step hs
  | 36, h => exact fun m hm => (h m hm).step hs
  | 37, h => exact h.step hs
  | 38, h => exact fun m hm => (h m hm).step hs
  | 39, h => exact h.step hs
  | 40, h => exact fun m hm => (h m hm).step hs
  | 41, h => exact h
  | 42, h => exact h
  | n + 43, h => trivial
structure namedG (N B : Nat) (v1 v2 v3 : Value) (p q : Nat) (w : World) : Prop where
  size : B ≤ w.heap.size
  NB : N ≤ B
  low : IsV N w v1 (between 97 122)
  up : IsV N w v2 (between 65 90)
  dig : IsV N w v3 (between 48 57)
  aln : ∃ u, w.cell? ⟨p, 0, none⟩ = some u ∧ IsV N w u ((fun c => between 97 122 c || between 65 90 c || between 48 57 c))
  gra : ∃ u, w.cell? ⟨q, 0, none⟩ = some u ∧ IsV N w u (between 33 126)
  pN : N ≤ p
  qN : N ≤ q
theorem namedG.step {N B : Nat} {v1 v2 v3 : Value} {p q : Nat} {w w' : World} (h : namedG N B v1 v2 v3 p q w) (hs : Step N B w w') : namedG N B v1 v2 v3 p q w' :=
  ⟨Nat.le_trans h.size hs.size, h.NB, h.low.step hs, h.up.step hs, h.dig.step hs, let ⟨u, h1, h2⟩ := h.aln; ⟨u, hs.cell h1, h2.step hs⟩, let ⟨u, h1, h2⟩ := h.gra; ⟨u, hs.cell h1, h2.step hs⟩, h.pN, h.qN⟩

theorem namedV_dep {N B : Nat} {l : List Oper} (hl : 0 ∈ ancs l 2 ∧ 0 ∈ ancs l 4 ∧ 0 ∈ ancs l 6 ∧ 0 ∈ ancs l 8 ∧ 0 ∈ ancs l 10 ∧ 0 ∈ ancs l 15 ∧ 0 ∈ ancs l 21 ∧ 0 ∈ ancs l 26 ∧ 0 ∈ ancs l 31 ∧ 0 ∈ ancs l 36 ∧ 0 ∈ ancs l 38 ∧ 0 ∈ ancs l 40 ∧ 0 ∈ ancs l 41 ∧ 0 ∈ ancs l 42) (i : Nat) (x x' v : Value) (w : World) (h0 : i ≠ 0) (hn : 0 ∉ ancs l i) (h : namedV N B i x v w) : namedV N B i x' v w := by
  unfold namedV at h ⊢
  match i, h with
  | 0, h => exact absurd rfl h0
  | 1, h => exact h
  | 2, h => exact absurd hl.1 hn
  | 3, h => exact h
  | 4, h => exact absurd hl.2.1 hn
  | 5, h => exact h
  | 6, h => exact absurd hl.2.2.1 hn
  | 7, h => exact h
  | 8, h => exact absurd hl.2.2.2.1 hn
  | 9, h => exact h
  | 10, h => exact absurd hl.2.2.2.2.1 hn
  | 11, h => exact h
  | 12, h => exact h
  | 13, h => exact h
  | 14, h => exact h
  | 15, h => exact absurd hl.2.2.2.2.2.1 hn
  | 16, h => exact h
  | 17, h => exact h
  | 18, h => exact h
  | 19, h => exact h
  | 20, h => exact h
  | 21, h => exact absurd hl.2.2.2.2.2.2.1 hn
  | 22, h => exact h
  | 23, h => exact h
  | 24, h => exact h
  | 25, h => exact h
  | 26, h => exact absurd hl.2.2.2.2.2.2.2.1 hn
  | 27, h => exact h
  | 28, h => exact h
  | 29, h => exact h
  | 30, h => exact h
  | 31, h => exact absurd hl.2.2.2.2.2.2.2.2.1 hn
  | 32, h => exact h
  | 33, h => exact h
  | 34, h => exact h
  | 35, h => exact h
  | 36, h => exact absurd hl.2.2.2.2.2.2.2.2.2.1 hn
  | 37, h => exact h
  | 38, h => exact absurd hl.2.2.2.2.2.2.2.2.2.2.1 hn
  | 39, h => exact h
  | 40, h => exact absurd hl.2.2.2.2.2.2.2.2.2.2.2.1 hn
  | 41, h => exact absurd hl.2.2.2.2.2.2.2.2.2.2.2.2.1 hn
  | 42, h => exact absurd hl.2.2.2.2.2.2.2.2.2.2.2.2.2 hn
  | n + 43, h => exact h
set_option maxRecDepth 100000 in set_option maxHeartbeats 4000000 in
theorem named_any : NamedSaid := by
  intro w
  have hnf : ∀ w : World, (zeroValue 77).run Tryd.prog w = .ok .nilFunc w := zeroIs
  have s1 : ∀ w : World, Calls Tryd.prog 47 #[.int .u8 97, .int .u8 122] w fun e w' => ∃ v, e = .returned v ∧ IsV w.heap.size w' v (between 97 122) ∧ Below w.heap.size w w' := fun w => span_any w 97 122
  have s2 : ∀ w : World, Calls Tryd.prog 47 #[.int .u8 65, .int .u8 90] w fun e w' => ∃ v, e = .returned v ∧ IsV w.heap.size w' v (between 65 90) ∧ Below w.heap.size w w' := fun w => span_any w 65 90
  have s3 : ∀ w : World, Calls Tryd.prog 47 #[.int .u8 48, .int .u8 57] w fun e w' => ∃ v, e = .returned v ∧ IsV w.heap.size w' v (between 48 57) ∧ Below w.heap.size w w' := fun w => span_any w 48 57
  have s4 : ∀ w : World, Calls Tryd.prog 47 #[.int .u8 33, .int .u8 126] w fun e w' => ∃ v, e = .returned v ∧ IsV w.heap.size w' v (between 33 126) ∧ Below w.heap.size w w' := fun w => span_any w 33 126
  go_enter Tryd.func46, Tryd.ntmps46
  go_wp2_with fail
  refine (s1 _).mono ?_
  rintro e w1 ⟨v1, rfl, hV1, hB1⟩
  go_wp2_with fail
  refine (s2 _).mono ?_
  rintro e w2 ⟨v2, rfl, hV2, hB2⟩
  go_wp2_with fail
  refine (s3 _).mono ?_
  rintro e w3 ⟨v3, rfl, hV3, hB3⟩
  have hV1 := (hV1.below hB2).below hB3
  have hV2 := (hV2.less hB1.size).below hB3
  have hV3 := hV3.less (Nat.le_trans hB1.size hB2.size)
  have hB3 : Below w.heap.size w w3 := (hB1.trans (hB2.mono hB1.size)).trans (hB3.mono (Nat.le_trans hB1.size hB2.size))
  obtain ⟨k1, c1, rfl, a1, b1⟩ := id hV1
  obtain ⟨k2, c2, rfl, a2, b2⟩ := id hV2
  obtain ⟨k3, c3, rfl, a3, b3⟩ := id hV3
  go_wp2_with fail
  refine (some_of (N := w.heap.size) (fs := [between 97 122, between 65 90, between 48 57]) (slice_new [.func (.func k1) #[] c1, .func (.func k2) #[] c2, .func (.func k3) #[] c3] [between 97 122, between 65 90, between 48 57] rfl hB3.size fun i u f hu hf => ?_) (by rw [sz_alloc]; have := hB3.size; omega) (by decide) (by decide)).mono ?_
  · match i, hu, hf with
    | 0, hu, hf => cases hu; cases hf; exact hV1
    | 1, hu, hf => cases hu; cases hf; exact hV2
    | 2, hu, hf => cases hu; cases hf; exact hV3
    | n + 3, hu, hf => simp at hu
  rintro e w4 ⟨va, rfl, hVa, hB4⟩
  have hB4 : Below w3.heap.size w3 w4 := ((Below.refl _ _).alloc (Nat.le_refl _) _).trans (hB4.mono (by rw [sz_alloc]; omega))
  have hV1 := hV1.below hB4
  have hV2 := hV2.below hB4
  have hV3 := hV3.below hB4
  have hB4 := hB3.trans (hB4.mono hB3.size)
  obtain ⟨ka, ca, rfl, aa, ba⟩ := id hVa
  go_wp2_with fail
  refine (s4 _).mono ?_
  rintro e w5 ⟨vg, rfl, hVg, hB5⟩
  have hV1 := hV1.below hB5
  have hV2 := hV2.below hB5
  have hV3 := hV3.below hB5
  have hVa := hVa.below hB5
  have hVg := hVg.less hB4.size
  have hB5 := hB4.trans (hB5.mono hB4.size)
  obtain ⟨kg, cg, rfl, ag, bg⟩ := id hVg
  have q4 : ((w5.alloc (.cells #[.nilFunc] 77)).alloc (.cells #[.nilFunc] 77)).heap[w5.heap.size]? = some (.cells #[.nilFunc] 77 (0, 0)) := (hq_ne (by rw [sz_alloc]; omega)).trans (hq_eq rfl)
  have q5 : ((w5.alloc (.cells #[.nilFunc] 77)).alloc (.cells #[.nilFunc] 77)).heap[w5.heap.size + 1]? = some (.cells #[.nilFunc] 77 (0, 0)) := hq_eq (by rw [sz_alloc])
  have x4 : ((w5.alloc (.cells #[.nilFunc] 77)).alloc (.cells #[.nilFunc] 77)).cell? ⟨w5.heap.size, 0, none⟩ = some .nilFunc := cell_of_heap q4 0
  have y4 := free_of_heap q4 0
  have z4 := lt_of_heap q4
  have x5 : ((w5.alloc (.cells #[.nilFunc] 77)).alloc (.cells #[.nilFunc] 77)).cell? ⟨w5.heap.size + 1, 0, none⟩ = some .nilFunc := cell_of_heap q5 0
  have y5 := free_of_heap q5 0
  have z5 := lt_of_heap q5
  go_wp2_with fail
  have hz : ((w5.alloc (.cells #[.func (.func ka) #[] ca] 77)).alloc (.cells #[.func (.func kg) #[] cg] 77)).heap.size = w5.heap.size + 2 := by rw [sz_alloc, sz_alloc]
  have hB6 : Below w5.heap.size w5 ((w5.alloc (.cells #[.func (.func ka) #[] ca] 77)).alloc (.cells #[.func (.func kg) #[] cg] 77)) := ((Below.refl _ _).alloc (Nat.le_refl _) _).alloc (by rw [sz_alloc]; omega) _
  have hV1 := hV1.below hB6
  have hV2 := hV2.below hB6
  have hV3 := hV3.below hB6
  have hVa := (hVa.below hB6).as (show _ = (fun c => between 97 122 c || between 65 90 c || between 48 57 c) from by funext c; simp [anyF, Bool.or_assoc])
  have hVg := hVg.below hB6
  have hN5 := hB5.size
  have r4 : ((w5.alloc (.cells #[.func (.func ka) #[] ca] 77)).alloc (.cells #[.func (.func kg) #[] cg] 77)).cell? ⟨w5.heap.size, 0, none⟩ = some (.func (.func ka) #[] ca) := cell_of_heap ((hq_ne (by rw [sz_alloc]; omega)).trans (hq_eq rfl)) 0
  have r5 : ((w5.alloc (.cells #[.func (.func ka) #[] ca] 77)).alloc (.cells #[.func (.func kg) #[] cg] 77)).cell? ⟨w5.heap.size + 1, 0, none⟩ = some (.func (.func kg) #[] cg) := cell_of_heap (hq_eq (by rw [sz_alloc])) 0
  have hB6 := hB5.trans (hB6.mono hB5.size)
  clear q4 q5 x4 x5 y4 y5 z4 z5
  generalize (w5.alloc (.cells #[.func (.func ka) #[] ca] 77)).alloc (.cells #[.func (.func kg) #[] cg] 77) = W at *
  have hGG : namedG w.heap.size W.heap.size (.func (.func k1) #[] c1) (.func (.func k2) #[] c2) (.func (.func k3) #[] c3) w5.heap.size (w5.heap.size + 1) W.drew :=
    ⟨Nat.le_refl _, hB6.size, hV1, hV2, hV3, ⟨_, r4, hVa⟩, ⟨_, r5, hVg⟩, hN5, by omega⟩
  refine wp_region_step (by kernel_rfl) (namedV w.heap.size W.heap.size) (namedG w.heap.size W.heap.size (.func (.func k1) #[] c1) (.func (.func k2) #[] c2) (.func (.func k3) #[] c3) w5.heap.size (w5.heap.size + 1)) (Step w.heap.size W.heap.size)
    (by kernel_rfl) (by kernel_rfl) (by kernel_rfl) (Step.refl _ _) (fun _ _ _ => Step.trans) (namedV_step _ _) (fun i x x' v w _ h0 hn h => namedV_dep (by refine ⟨?_, ?_, ?_, ?_, ?_, ?_, ?_, ?_, ?_, ?_, ?_, ?_, ?_, ?_⟩ <;> exact mem_ancs (by kernel_rfl)) i x x' v w h0 hn h) hGG (fun _ _ h hs => h.step hs) ?_ ?_
  · intro i o ho
    match i, ho with
    | 0, ho =>
      obtain rfl := Option.some.inj ho
      clear ho
      intro vals w1 a hg hF ha
      refine ⟨rfl, .inl (wp_value (v := .map (some w1.heap.size)) (w' := w1.alloc (.map #[] 0)) ?_ ⟨_, rfl, ⟨_, rfl, (Step.newMap hg.size).2⟩, (Step.newMap hg.size).1⟩)⟩
      clear ha hF
      generalize a.eval = ρ at *
      simp [execOp, go_sem, Instr.makeMap]
    | 1, ho =>
      obtain rfl := Option.some.inj ho
      clear ho
      intro vals w1 a hg hF ha
      have e0 : a.eval (.tmp 1) = .func (.func k1) #[] c1 := ((ha (.tmp 1) (by simp [Op.operands, Call.operands])).trans rfl)
      refine ⟨rfl, .inl (wp_value (v := .func (.func k1) #[] c1) (w' := w1) ?_ ⟨_, rfl, hg.low, Step.refl _ _ _⟩)⟩
      have hc : ∀ v, a.eval (.const v) = v := fun _ => rfl
      have hfn : ∀ f, a.eval (.func f) = .func (.func f) #[] #[] := fun _ => rfl
      clear ha hF
      generalize a.eval = ρ at *
      simp [execOp, go_sem, e0]
    | 2, ho =>
      obtain rfl := Option.some.inj ho
      clear ho
      intro vals w1 a hg hF ha
      obtain ⟨m, hm, hM⟩ := hF 0 (mem_ancs (by kernel_rfl))
      have f1 := hF 1 (mem_ancs (by kernel_rfl))
      obtain ⟨w2, hrun, hS, hH⟩ := insert_good hM (ByteArray.mk #[108, 111, 119, 101, 114]) (vals 1) _ rfl f1
      have e0 : a.eval (.tmp 15) = .map (some m) := ((ha (.tmp 15) (by simp [Op.operands, Call.operands])).trans rfl).trans hm
      have e1 : a.eval (.tmp 16) = vals 1 := ((ha (.tmp 16) (by simp [Op.operands, Call.operands])).trans rfl)
      refine ⟨rfl, .inl (wp_skip' (w' := w2) ?_ ⟨_, rfl, fun m' hm' => ?_, hS⟩)⟩
      · clear f1 hH
        have hc : ∀ v, a.eval (.const v) = v := fun _ => rfl
        have hfn : ∀ f, a.eval (.func f) = .func (.func f) #[] #[] := fun _ => rfl
        clear ha hF
        generalize a.eval = ρ at *
        simp [execOp, go_sem, e0, e1, hc, hrun]
      · have e : vals 0 = .map (some m') := hm'
        rw [hm] at e; cases e; exact hH
    | 3, ho =>
      obtain rfl := Option.some.inj ho
      clear ho
      intro vals w1 a hg hF ha
      have e0 : a.eval (.tmp 2) = .func (.func k2) #[] c2 := ((ha (.tmp 2) (by simp [Op.operands, Call.operands])).trans rfl)
      refine ⟨rfl, .inl (wp_value (v := .func (.func k2) #[] c2) (w' := w1) ?_ ⟨_, rfl, hg.up, Step.refl _ _ _⟩)⟩
      have hc : ∀ v, a.eval (.const v) = v := fun _ => rfl
      have hfn : ∀ f, a.eval (.func f) = .func (.func f) #[] #[] := fun _ => rfl
      clear ha hF
      generalize a.eval = ρ at *
      simp [execOp, go_sem, e0]
    | 4, ho =>
      obtain rfl := Option.some.inj ho
      clear ho
      intro vals w1 a hg hF ha
      obtain ⟨m, hm, hM⟩ := hF 0 (mem_ancs (by kernel_rfl))
      have f1 := hF 3 (mem_ancs (by kernel_rfl))
      obtain ⟨w2, hrun, hS, hH⟩ := insert_good hM (ByteArray.mk #[117, 112, 112, 101, 114]) (vals 3) _ rfl f1
      have e0 : a.eval (.tmp 15) = .map (some m) := ((ha (.tmp 15) (by simp [Op.operands, Call.operands])).trans rfl).trans hm
      have e1 : a.eval (.tmp 17) = vals 3 := ((ha (.tmp 17) (by simp [Op.operands, Call.operands])).trans rfl)
      refine ⟨rfl, .inl (wp_skip' (w' := w2) ?_ ⟨_, rfl, fun m' hm' => ?_, hS⟩)⟩
      · clear f1 hH
        have hc : ∀ v, a.eval (.const v) = v := fun _ => rfl
        have hfn : ∀ f, a.eval (.func f) = .func (.func f) #[] #[] := fun _ => rfl
        clear ha hF
        generalize a.eval = ρ at *
        simp [execOp, go_sem, e0, e1, hc, hrun]
      · have e : vals 0 = .map (some m') := hm'
        rw [hm] at e; cases e; exact hH
    | 5, ho =>
      obtain rfl := Option.some.inj ho
      clear ho
      intro vals w1 a hg hF ha
      have e0 : a.eval (.tmp 3) = .func (.func k3) #[] c3 := ((ha (.tmp 3) (by simp [Op.operands, Call.operands])).trans rfl)
      refine ⟨rfl, .inl (wp_value (v := .func (.func k3) #[] c3) (w' := w1) ?_ ⟨_, rfl, hg.dig, Step.refl _ _ _⟩)⟩
      have hc : ∀ v, a.eval (.const v) = v := fun _ => rfl
      have hfn : ∀ f, a.eval (.func f) = .func (.func f) #[] #[] := fun _ => rfl
      clear ha hF
      generalize a.eval = ρ at *
      simp [execOp, go_sem, e0]
    | 6, ho =>
      obtain rfl := Option.some.inj ho
      clear ho
      intro vals w1 a hg hF ha
      obtain ⟨m, hm, hM⟩ := hF 0 (mem_ancs (by kernel_rfl))
      have f1 := hF 5 (mem_ancs (by kernel_rfl))
      obtain ⟨w2, hrun, hS, hH⟩ := insert_good hM (ByteArray.mk #[100, 105, 103, 105, 116]) (vals 5) _ rfl f1
      have e0 : a.eval (.tmp 15) = .map (some m) := ((ha (.tmp 15) (by simp [Op.operands, Call.operands])).trans rfl).trans hm
      have e1 : a.eval (.tmp 18) = vals 5 := ((ha (.tmp 18) (by simp [Op.operands, Call.operands])).trans rfl)
      refine ⟨rfl, .inl (wp_skip' (w' := w2) ?_ ⟨_, rfl, fun m' hm' => ?_, hS⟩)⟩
      · clear f1 hH
        have hc : ∀ v, a.eval (.const v) = v := fun _ => rfl
        have hfn : ∀ f, a.eval (.func f) = .func (.func f) #[] #[] := fun _ => rfl
        clear ha hF
        generalize a.eval = ρ at *
        simp [execOp, go_sem, e0, e1, hc, hrun]
      · have e : vals 0 = .map (some m') := hm'
        rw [hm] at e; cases e; exact hH
    | 7, ho =>
      obtain rfl := Option.some.inj ho
      clear ho
      intro vals w1 a hg hF ha
      have e0 : a.eval (.tmp 4) = .pointer (some ⟨w5.heap.size, 0, none⟩) := ((ha (.tmp 4) (by simp [Op.operands, Call.operands])).trans rfl)
      obtain ⟨u, hu, hI⟩ := hg.aln
      refine ⟨rfl, .inl (wp_value (v := u) (w' := w1) ?_ ⟨_, rfl, hI, Step.refl _ _ _⟩)⟩
      have hc : ∀ v, a.eval (.const v) = v := fun _ => rfl
      have hfn : ∀ f, a.eval (.func f) = .func (.func f) #[] #[] := fun _ => rfl
      clear ha hF
      generalize a.eval = ρ at *
      simp [execOp, go_sem, e0, hu]
    | 8, ho =>
      obtain rfl := Option.some.inj ho
      clear ho
      intro vals w1 a hg hF ha
      obtain ⟨m, hm, hM⟩ := hF 0 (mem_ancs (by kernel_rfl))
      have f1 := hF 7 (mem_ancs (by kernel_rfl))
      obtain ⟨w2, hrun, hS, hH⟩ := insert_good hM (ByteArray.mk #[97, 108, 110, 117, 109]) (vals 7) _ rfl f1
      have e0 : a.eval (.tmp 15) = .map (some m) := ((ha (.tmp 15) (by simp [Op.operands, Call.operands])).trans rfl).trans hm
      have e1 : a.eval (.tmp 19) = vals 7 := ((ha (.tmp 19) (by simp [Op.operands, Call.operands])).trans rfl)
      refine ⟨rfl, .inl (wp_skip' (w' := w2) ?_ ⟨_, rfl, fun m' hm' => ?_, hS⟩)⟩
      · clear f1 hH
        have hc : ∀ v, a.eval (.const v) = v := fun _ => rfl
        have hfn : ∀ f, a.eval (.func f) = .func (.func f) #[] #[] := fun _ => rfl
        clear ha hF
        generalize a.eval = ρ at *
        simp [execOp, go_sem, e0, e1, hc, hrun]
      · have e : vals 0 = .map (some m') := hm'
        rw [hm] at e; cases e; exact hH
    | 9, ho =>
      obtain rfl := Option.some.inj ho
      clear ho
      intro vals w1 a hg hF ha
      have e0 : a.eval (.tmp 5) = .pointer (some ⟨w5.heap.size + 1, 0, none⟩) := ((ha (.tmp 5) (by simp [Op.operands, Call.operands])).trans rfl)
      obtain ⟨u, hu, hI⟩ := hg.gra
      refine ⟨rfl, .inl (wp_value (v := u) (w' := w1) ?_ ⟨_, rfl, hI, Step.refl _ _ _⟩)⟩
      have hc : ∀ v, a.eval (.const v) = v := fun _ => rfl
      have hfn : ∀ f, a.eval (.func f) = .func (.func f) #[] #[] := fun _ => rfl
      clear ha hF
      generalize a.eval = ρ at *
      simp [execOp, go_sem, e0, hu]
    | 10, ho =>
      obtain rfl := Option.some.inj ho
      clear ho
      intro vals w1 a hg hF ha
      obtain ⟨m, hm, hM⟩ := hF 0 (mem_ancs (by kernel_rfl))
      have f1 := hF 9 (mem_ancs (by kernel_rfl))
      obtain ⟨w2, hrun, hS, hH⟩ := insert_good hM (ByteArray.mk #[103, 114, 97, 112, 104]) (vals 9) _ rfl f1
      have e0 : a.eval (.tmp 15) = .map (some m) := ((ha (.tmp 15) (by simp [Op.operands, Call.operands])).trans rfl).trans hm
      have e1 : a.eval (.tmp 20) = vals 9 := ((ha (.tmp 20) (by simp [Op.operands, Call.operands])).trans rfl)
      refine ⟨rfl, .inl (wp_skip' (w' := w2) ?_ ⟨_, rfl, fun m' hm' => ?_, hS⟩)⟩
      · clear f1 hH
        have hc : ∀ v, a.eval (.const v) = v := fun _ => rfl
        have hfn : ∀ f, a.eval (.func f) = .func (.func f) #[] #[] := fun _ => rfl
        clear ha hF
        generalize a.eval = ρ at *
        simp [execOp, go_sem, e0, e1, hc, hrun]
      · have e : vals 0 = .map (some m') := hm'
        rw [hm] at e; cases e; exact hH
    | 11, ho =>
      obtain rfl := Option.some.inj ho
      clear ho
      intro vals w1 a hg hF ha
      have e0 : a.eval (.tmp 1) = .func (.func k1) #[] c1 := ((ha (.tmp 1) (by simp [Op.operands, Call.operands])).trans rfl)
      refine ⟨rfl, .inl (wp_value (v := .func (.func k1) #[] c1) (w' := w1) ?_ ⟨_, rfl, hg.low, Step.refl _ _ _⟩)⟩
      have hc : ∀ v, a.eval (.const v) = v := fun _ => rfl
      have hfn : ∀ f, a.eval (.func f) = .func (.func f) #[] #[] := fun _ => rfl
      clear ha hF
      generalize a.eval = ρ at *
      simp [execOp, go_sem, e0]
    | 12, ho =>
      obtain rfl := Option.some.inj ho
      clear ho
      intro vals w1 a hg hF ha
      have e0 : a.eval (.tmp 2) = .func (.func k2) #[] c2 := ((ha (.tmp 2) (by simp [Op.operands, Call.operands])).trans rfl)
      refine ⟨rfl, .inl (wp_value (v := .func (.func k2) #[] c2) (w' := w1) ?_ ⟨_, rfl, hg.up, Step.refl _ _ _⟩)⟩
      have hc : ∀ v, a.eval (.const v) = v := fun _ => rfl
      have hfn : ∀ f, a.eval (.func f) = .func (.func f) #[] #[] := fun _ => rfl
      clear ha hF
      generalize a.eval = ρ at *
      simp [execOp, go_sem, e0]
    | 13, ho =>
      obtain rfl := Option.some.inj ho
      clear ho
      intro vals w1 a hg hF ha
      have f0 := hF 11 (mem_ancs (by kernel_rfl))
      have e0 : a.eval (.tmp 21) = vals 11 := ((ha (.tmp 21) (by simp [Op.operands, Call.operands])).trans rfl)
      have f1 := hF 12 (mem_ancs (by kernel_rfl))
      have e1 : a.eval (.tmp 22) = vals 12 := ((ha (.tmp 22) (by simp [Op.operands, Call.operands])).trans rfl)
      obtain ⟨v, w2, hrun, hS, hB⟩ := slice2 (Nat.le_trans hg.NB hg.size) f0 f1
      refine ⟨rfl, .inl (wp_value (v := v) (w' := w2) ?_ ⟨_, rfl, hS, Step.ofBelow hB⟩)⟩
      clear f0 f1
      have hc : ∀ v, a.eval (.const v) = v := fun _ => rfl
      have hfn : ∀ f, a.eval (.func f) = .func (.func f) #[] #[] := fun _ => rfl
      clear ha hF
      generalize a.eval = ρ at *
      simp [execOp, e0, e1, hrun, Result.andThen]
    | 14, ho =>
      obtain rfl := Option.some.inj ho
      clear ho
      intro vals w1 a hg hF ha
      have f0 := hF 13 (mem_ancs (by kernel_rfl))
      have e0 : a.eval (.tmp 23) = vals 13 := ((ha (.tmp 23) (by simp [Op.operands, Call.operands])).trans rfl)
      refine ⟨rfl, .inl (wp_callE (f := 56) (args := #[vals 13]) (w1 := w1) ?_ ((some_of f0 (Nat.le_trans hg.NB hg.size) (by decide) (by decide)).mono ?_))⟩
      · clear f0
        have hc : ∀ v, a.eval (.const v) = v := fun _ => rfl
        have hfn : ∀ f, a.eval (.func f) = .func (.func f) #[] #[] := fun _ => rfl
        clear ha hF
        generalize a.eval = ρ at *
        simp [execOp, go_sem, e0, hc, hfn]
      · rintro e w2 ⟨u, rfl, hu, hB⟩
        exact ⟨_, rfl, _, rfl, hu, Step.ofBelow hB⟩
    | 15, ho =>
      obtain rfl := Option.some.inj ho
      clear ho
      intro vals w1 a hg hF ha
      obtain ⟨m, hm, hM⟩ := hF 0 (mem_ancs (by kernel_rfl))
      have f1 := IsV.as (hF 14 (mem_ancs (by kernel_rfl))) (show _ = (fun c => between 97 122 c || between 65 90 c) from by funext c; simp [anyF, Bool.or_assoc])
      obtain ⟨w2, hrun, hS, hH⟩ := insert_good hM (ByteArray.mk #[97, 108, 112, 104, 97]) (vals 14) _ rfl f1
      have e0 : a.eval (.tmp 15) = .map (some m) := ((ha (.tmp 15) (by simp [Op.operands, Call.operands])).trans rfl).trans hm
      have e1 : a.eval (.tmp 24) = vals 14 := ((ha (.tmp 24) (by simp [Op.operands, Call.operands])).trans rfl)
      refine ⟨rfl, .inl (wp_skip' (w' := w2) ?_ ⟨_, rfl, fun m' hm' => ?_, hS⟩)⟩
      · clear f1 hH
        have hc : ∀ v, a.eval (.const v) = v := fun _ => rfl
        have hfn : ∀ f, a.eval (.func f) = .func (.func f) #[] #[] := fun _ => rfl
        clear ha hF
        generalize a.eval = ρ at *
        simp [execOp, go_sem, e0, e1, hc, hrun]
      · have e : vals 0 = .map (some m') := hm'
        rw [hm] at e; cases e; exact hH
    | 16, ho =>
      obtain rfl := Option.some.inj ho
      clear ho
      intro vals w1 a hg hF ha
      have e0 : a.eval (.tmp 3) = .func (.func k3) #[] c3 := ((ha (.tmp 3) (by simp [Op.operands, Call.operands])).trans rfl)
      refine ⟨rfl, .inl (wp_value (v := .func (.func k3) #[] c3) (w' := w1) ?_ ⟨_, rfl, hg.dig, Step.refl _ _ _⟩)⟩
      have hc : ∀ v, a.eval (.const v) = v := fun _ => rfl
      have hfn : ∀ f, a.eval (.func f) = .func (.func f) #[] #[] := fun _ => rfl
      clear ha hF
      generalize a.eval = ρ at *
      simp [execOp, go_sem, e0]
    | 17, ho =>
      obtain rfl := Option.some.inj ho
      clear ho
      intro vals w1 a hg hF ha
      refine ⟨rfl, .inl (wp_callE (f := 47) (args := #[.int .u8 97, .int .u8 102]) (w1 := w1) ?_ (Calls.mono (show Calls Tryd.prog 47 #[.int .u8 97, .int .u8 102] w1 _ from span_exact w1 97 102) ?_))⟩
      · clear hg
        have hc : ∀ v, a.eval (.const v) = v := fun _ => rfl
        have hfn : ∀ f, a.eval (.func f) = .func (.func f) #[] #[] := fun _ => rfl
        clear ha hF
        generalize a.eval = ρ at *
        simp [execOp, go_sem, hc, hfn]
      · rintro e w2 ⟨rfl, rfl⟩
        exact ⟨_, rfl, _, rfl, (span_is w1 97 102).less (Nat.le_trans hg.NB hg.size), Step.ofBelow (span_below w1 97 102)⟩
    | 18, ho =>
      obtain rfl := Option.some.inj ho
      clear ho
      intro vals w1 a hg hF ha
      refine ⟨rfl, .inl (wp_callE (f := 47) (args := #[.int .u8 65, .int .u8 70]) (w1 := w1) ?_ (Calls.mono (show Calls Tryd.prog 47 #[.int .u8 65, .int .u8 70] w1 _ from span_exact w1 65 70) ?_))⟩
      · clear hg
        have hc : ∀ v, a.eval (.const v) = v := fun _ => rfl
        have hfn : ∀ f, a.eval (.func f) = .func (.func f) #[] #[] := fun _ => rfl
        clear ha hF
        generalize a.eval = ρ at *
        simp [execOp, go_sem, hc, hfn]
      · rintro e w2 ⟨rfl, rfl⟩
        exact ⟨_, rfl, _, rfl, (span_is w1 65 70).less (Nat.le_trans hg.NB hg.size), Step.ofBelow (span_below w1 65 70)⟩
    | 19, ho =>
      obtain rfl := Option.some.inj ho
      clear ho
      intro vals w1 a hg hF ha
      have f0 := hF 16 (mem_ancs (by kernel_rfl))
      have e0 : a.eval (.tmp 25) = vals 16 := ((ha (.tmp 25) (by simp [Op.operands, Call.operands])).trans rfl)
      have f1 := hF 17 (mem_ancs (by kernel_rfl))
      have e1 : a.eval (.tmp 26) = vals 17 := ((ha (.tmp 26) (by simp [Op.operands, Call.operands])).trans rfl)
      have f2 := hF 18 (mem_ancs (by kernel_rfl))
      have e2 : a.eval (.tmp 27) = vals 18 := ((ha (.tmp 27) (by simp [Op.operands, Call.operands])).trans rfl)
      obtain ⟨v, w2, hrun, hS, hB⟩ := slice3 (Nat.le_trans hg.NB hg.size) f0 f1 f2
      refine ⟨rfl, .inl (wp_value (v := v) (w' := w2) ?_ ⟨_, rfl, hS, Step.ofBelow hB⟩)⟩
      clear f0 f1 f2
      have hc : ∀ v, a.eval (.const v) = v := fun _ => rfl
      have hfn : ∀ f, a.eval (.func f) = .func (.func f) #[] #[] := fun _ => rfl
      clear ha hF
      generalize a.eval = ρ at *
      simp [execOp, e0, e1, e2, hrun, Result.andThen]
    | 20, ho =>
      obtain rfl := Option.some.inj ho
      clear ho
      intro vals w1 a hg hF ha
      have f0 := hF 19 (mem_ancs (by kernel_rfl))
      have e0 : a.eval (.tmp 28) = vals 19 := ((ha (.tmp 28) (by simp [Op.operands, Call.operands])).trans rfl)
      refine ⟨rfl, .inl (wp_callE (f := 56) (args := #[vals 19]) (w1 := w1) ?_ ((some_of f0 (Nat.le_trans hg.NB hg.size) (by decide) (by decide)).mono ?_))⟩
      · clear f0
        have hc : ∀ v, a.eval (.const v) = v := fun _ => rfl
        have hfn : ∀ f, a.eval (.func f) = .func (.func f) #[] #[] := fun _ => rfl
        clear ha hF
        generalize a.eval = ρ at *
        simp [execOp, go_sem, e0, hc, hfn]
      · rintro e w2 ⟨u, rfl, hu, hB⟩
        exact ⟨_, rfl, _, rfl, hu, Step.ofBelow hB⟩
    | 21, ho =>
      obtain rfl := Option.some.inj ho
      clear ho
      intro vals w1 a hg hF ha
      obtain ⟨m, hm, hM⟩ := hF 0 (mem_ancs (by kernel_rfl))
      have f1 := IsV.as (hF 20 (mem_ancs (by kernel_rfl))) (show _ = (fun c => between 48 57 c || between 97 102 c || between 65 70 c) from by funext c; simp [anyF, Bool.or_assoc])
      obtain ⟨w2, hrun, hS, hH⟩ := insert_good hM (ByteArray.mk #[120, 100, 105, 103, 105, 116]) (vals 20) _ rfl f1
      have e0 : a.eval (.tmp 15) = .map (some m) := ((ha (.tmp 15) (by simp [Op.operands, Call.operands])).trans rfl).trans hm
      have e1 : a.eval (.tmp 29) = vals 20 := ((ha (.tmp 29) (by simp [Op.operands, Call.operands])).trans rfl)
      refine ⟨rfl, .inl (wp_skip' (w' := w2) ?_ ⟨_, rfl, fun m' hm' => ?_, hS⟩)⟩
      · clear f1 hH
        have hc : ∀ v, a.eval (.const v) = v := fun _ => rfl
        have hfn : ∀ f, a.eval (.func f) = .func (.func f) #[] #[] := fun _ => rfl
        clear ha hF
        generalize a.eval = ρ at *
        simp [execOp, go_sem, e0, e1, hc, hrun]
      · have e : vals 0 = .map (some m') := hm'
        rw [hm] at e; cases e; exact hH
    | 22, ho =>
      obtain rfl := Option.some.inj ho
      clear ho
      intro vals w1 a hg hF ha
      refine ⟨rfl, .inl (wp_callE (f := 47) (args := #[.int .u8 9, .int .u8 13]) (w1 := w1) ?_ (Calls.mono (show Calls Tryd.prog 47 #[.int .u8 9, .int .u8 13] w1 _ from span_exact w1 9 13) ?_))⟩
      · clear hg
        have hc : ∀ v, a.eval (.const v) = v := fun _ => rfl
        have hfn : ∀ f, a.eval (.func f) = .func (.func f) #[] #[] := fun _ => rfl
        clear ha hF
        generalize a.eval = ρ at *
        simp [execOp, go_sem, hc, hfn]
      · rintro e w2 ⟨rfl, rfl⟩
        exact ⟨_, rfl, _, rfl, (span_is w1 9 13).less (Nat.le_trans hg.NB hg.size), Step.ofBelow (span_below w1 9 13)⟩
    | 23, ho =>
      obtain rfl := Option.some.inj ho
      clear ho
      intro vals w1 a hg hF ha
      refine ⟨rfl, .inl (wp_callE (f := 47) (args := #[.int .u8 32, .int .u8 32]) (w1 := w1) ?_ (Calls.mono (show Calls Tryd.prog 47 #[.int .u8 32, .int .u8 32] w1 _ from span_exact w1 32 32) ?_))⟩
      · clear hg
        have hc : ∀ v, a.eval (.const v) = v := fun _ => rfl
        have hfn : ∀ f, a.eval (.func f) = .func (.func f) #[] #[] := fun _ => rfl
        clear ha hF
        generalize a.eval = ρ at *
        simp [execOp, go_sem, hc, hfn]
      · rintro e w2 ⟨rfl, rfl⟩
        exact ⟨_, rfl, _, rfl, (span_is w1 32 32).less (Nat.le_trans hg.NB hg.size), Step.ofBelow (span_below w1 32 32)⟩
    | 24, ho =>
      obtain rfl := Option.some.inj ho
      clear ho
      intro vals w1 a hg hF ha
      have f0 := hF 22 (mem_ancs (by kernel_rfl))
      have e0 : a.eval (.tmp 30) = vals 22 := ((ha (.tmp 30) (by simp [Op.operands, Call.operands])).trans rfl)
      have f1 := hF 23 (mem_ancs (by kernel_rfl))
      have e1 : a.eval (.tmp 31) = vals 23 := ((ha (.tmp 31) (by simp [Op.operands, Call.operands])).trans rfl)
      obtain ⟨v, w2, hrun, hS, hB⟩ := slice2 (Nat.le_trans hg.NB hg.size) f0 f1
      refine ⟨rfl, .inl (wp_value (v := v) (w' := w2) ?_ ⟨_, rfl, hS, Step.ofBelow hB⟩)⟩
      clear f0 f1
      have hc : ∀ v, a.eval (.const v) = v := fun _ => rfl
      have hfn : ∀ f, a.eval (.func f) = .func (.func f) #[] #[] := fun _ => rfl
      clear ha hF
      generalize a.eval = ρ at *
      simp [execOp, e0, e1, hrun, Result.andThen]
    | 25, ho =>
      obtain rfl := Option.some.inj ho
      clear ho
      intro vals w1 a hg hF ha
      have f0 := hF 24 (mem_ancs (by kernel_rfl))
      have e0 : a.eval (.tmp 32) = vals 24 := ((ha (.tmp 32) (by simp [Op.operands, Call.operands])).trans rfl)
      refine ⟨rfl, .inl (wp_callE (f := 56) (args := #[vals 24]) (w1 := w1) ?_ ((some_of f0 (Nat.le_trans hg.NB hg.size) (by decide) (by decide)).mono ?_))⟩
      · clear f0
        have hc : ∀ v, a.eval (.const v) = v := fun _ => rfl
        have hfn : ∀ f, a.eval (.func f) = .func (.func f) #[] #[] := fun _ => rfl
        clear ha hF
        generalize a.eval = ρ at *
        simp [execOp, go_sem, e0, hc, hfn]
      · rintro e w2 ⟨u, rfl, hu, hB⟩
        exact ⟨_, rfl, _, rfl, hu, Step.ofBelow hB⟩
    | 26, ho =>
      obtain rfl := Option.some.inj ho
      clear ho
      intro vals w1 a hg hF ha
      obtain ⟨m, hm, hM⟩ := hF 0 (mem_ancs (by kernel_rfl))
      have f1 := IsV.as (hF 25 (mem_ancs (by kernel_rfl))) (show _ = (fun c => between 9 13 c || between 32 32 c) from by funext c; simp [anyF, Bool.or_assoc])
      obtain ⟨w2, hrun, hS, hH⟩ := insert_good hM (ByteArray.mk #[115, 112, 97, 99, 101]) (vals 25) _ rfl f1
      have e0 : a.eval (.tmp 15) = .map (some m) := ((ha (.tmp 15) (by simp [Op.operands, Call.operands])).trans rfl).trans hm
      have e1 : a.eval (.tmp 33) = vals 25 := ((ha (.tmp 33) (by simp [Op.operands, Call.operands])).trans rfl)
      refine ⟨rfl, .inl (wp_skip' (w' := w2) ?_ ⟨_, rfl, fun m' hm' => ?_, hS⟩)⟩
      · clear f1 hH
        have hc : ∀ v, a.eval (.const v) = v := fun _ => rfl
        have hfn : ∀ f, a.eval (.func f) = .func (.func f) #[] #[] := fun _ => rfl
        clear ha hF
        generalize a.eval = ρ at *
        simp [execOp, go_sem, e0, e1, hc, hrun]
      · have e : vals 0 = .map (some m') := hm'
        rw [hm] at e; cases e; exact hH
    | 27, ho =>
      obtain rfl := Option.some.inj ho
      clear ho
      intro vals w1 a hg hF ha
      refine ⟨rfl, .inl (wp_callE (f := 47) (args := #[.int .u8 9, .int .u8 9]) (w1 := w1) ?_ (Calls.mono (show Calls Tryd.prog 47 #[.int .u8 9, .int .u8 9] w1 _ from span_exact w1 9 9) ?_))⟩
      · clear hg
        have hc : ∀ v, a.eval (.const v) = v := fun _ => rfl
        have hfn : ∀ f, a.eval (.func f) = .func (.func f) #[] #[] := fun _ => rfl
        clear ha hF
        generalize a.eval = ρ at *
        simp [execOp, go_sem, hc, hfn]
      · rintro e w2 ⟨rfl, rfl⟩
        exact ⟨_, rfl, _, rfl, (span_is w1 9 9).less (Nat.le_trans hg.NB hg.size), Step.ofBelow (span_below w1 9 9)⟩
    | 28, ho =>
      obtain rfl := Option.some.inj ho
      clear ho
      intro vals w1 a hg hF ha
      refine ⟨rfl, .inl (wp_callE (f := 47) (args := #[.int .u8 32, .int .u8 32]) (w1 := w1) ?_ (Calls.mono (show Calls Tryd.prog 47 #[.int .u8 32, .int .u8 32] w1 _ from span_exact w1 32 32) ?_))⟩
      · clear hg
        have hc : ∀ v, a.eval (.const v) = v := fun _ => rfl
        have hfn : ∀ f, a.eval (.func f) = .func (.func f) #[] #[] := fun _ => rfl
        clear ha hF
        generalize a.eval = ρ at *
        simp [execOp, go_sem, hc, hfn]
      · rintro e w2 ⟨rfl, rfl⟩
        exact ⟨_, rfl, _, rfl, (span_is w1 32 32).less (Nat.le_trans hg.NB hg.size), Step.ofBelow (span_below w1 32 32)⟩
    | 29, ho =>
      obtain rfl := Option.some.inj ho
      clear ho
      intro vals w1 a hg hF ha
      have f0 := hF 27 (mem_ancs (by kernel_rfl))
      have e0 : a.eval (.tmp 34) = vals 27 := ((ha (.tmp 34) (by simp [Op.operands, Call.operands])).trans rfl)
      have f1 := hF 28 (mem_ancs (by kernel_rfl))
      have e1 : a.eval (.tmp 35) = vals 28 := ((ha (.tmp 35) (by simp [Op.operands, Call.operands])).trans rfl)
      obtain ⟨v, w2, hrun, hS, hB⟩ := slice2 (Nat.le_trans hg.NB hg.size) f0 f1
      refine ⟨rfl, .inl (wp_value (v := v) (w' := w2) ?_ ⟨_, rfl, hS, Step.ofBelow hB⟩)⟩
      clear f0 f1
      have hc : ∀ v, a.eval (.const v) = v := fun _ => rfl
      have hfn : ∀ f, a.eval (.func f) = .func (.func f) #[] #[] := fun _ => rfl
      clear ha hF
      generalize a.eval = ρ at *
      simp [execOp, e0, e1, hrun, Result.andThen]
    | 30, ho =>
      obtain rfl := Option.some.inj ho
      clear ho
      intro vals w1 a hg hF ha
      have f0 := hF 29 (mem_ancs (by kernel_rfl))
      have e0 : a.eval (.tmp 36) = vals 29 := ((ha (.tmp 36) (by simp [Op.operands, Call.operands])).trans rfl)
      refine ⟨rfl, .inl (wp_callE (f := 56) (args := #[vals 29]) (w1 := w1) ?_ ((some_of f0 (Nat.le_trans hg.NB hg.size) (by decide) (by decide)).mono ?_))⟩
      · clear f0
        have hc : ∀ v, a.eval (.const v) = v := fun _ => rfl
        have hfn : ∀ f, a.eval (.func f) = .func (.func f) #[] #[] := fun _ => rfl
        clear ha hF
        generalize a.eval = ρ at *
        simp [execOp, go_sem, e0, hc, hfn]
      · rintro e w2 ⟨u, rfl, hu, hB⟩
        exact ⟨_, rfl, _, rfl, hu, Step.ofBelow hB⟩
    | 31, ho =>
      obtain rfl := Option.some.inj ho
      clear ho
      intro vals w1 a hg hF ha
      obtain ⟨m, hm, hM⟩ := hF 0 (mem_ancs (by kernel_rfl))
      have f1 := IsV.as (hF 30 (mem_ancs (by kernel_rfl))) (show _ = (fun c => between 9 9 c || between 32 32 c) from by funext c; simp [anyF, Bool.or_assoc])
      obtain ⟨w2, hrun, hS, hH⟩ := insert_good hM (ByteArray.mk #[98, 108, 97, 110, 107]) (vals 30) _ rfl f1
      have e0 : a.eval (.tmp 15) = .map (some m) := ((ha (.tmp 15) (by simp [Op.operands, Call.operands])).trans rfl).trans hm
      have e1 : a.eval (.tmp 37) = vals 30 := ((ha (.tmp 37) (by simp [Op.operands, Call.operands])).trans rfl)
      refine ⟨rfl, .inl (wp_skip' (w' := w2) ?_ ⟨_, rfl, fun m' hm' => ?_, hS⟩)⟩
      · clear f1 hH
        have hc : ∀ v, a.eval (.const v) = v := fun _ => rfl
        have hfn : ∀ f, a.eval (.func f) = .func (.func f) #[] #[] := fun _ => rfl
        clear ha hF
        generalize a.eval = ρ at *
        simp [execOp, go_sem, e0, e1, hc, hrun]
      · have e : vals 0 = .map (some m') := hm'
        rw [hm] at e; cases e; exact hH
    | 32, ho =>
      obtain rfl := Option.some.inj ho
      clear ho
      intro vals w1 a hg hF ha
      refine ⟨rfl, .inl (wp_callE (f := 47) (args := #[.int .u8 0, .int .u8 31]) (w1 := w1) ?_ (Calls.mono (show Calls Tryd.prog 47 #[.int .u8 0, .int .u8 31] w1 _ from span_exact w1 0 31) ?_))⟩
      · clear hg
        have hc : ∀ v, a.eval (.const v) = v := fun _ => rfl
        have hfn : ∀ f, a.eval (.func f) = .func (.func f) #[] #[] := fun _ => rfl
        clear ha hF
        generalize a.eval = ρ at *
        simp [execOp, go_sem, hc, hfn]
      · rintro e w2 ⟨rfl, rfl⟩
        exact ⟨_, rfl, _, rfl, (span_is w1 0 31).less (Nat.le_trans hg.NB hg.size), Step.ofBelow (span_below w1 0 31)⟩
    | 33, ho =>
      obtain rfl := Option.some.inj ho
      clear ho
      intro vals w1 a hg hF ha
      refine ⟨rfl, .inl (wp_callE (f := 47) (args := #[.int .u8 127, .int .u8 127]) (w1 := w1) ?_ (Calls.mono (show Calls Tryd.prog 47 #[.int .u8 127, .int .u8 127] w1 _ from span_exact w1 127 127) ?_))⟩
      · clear hg
        have hc : ∀ v, a.eval (.const v) = v := fun _ => rfl
        have hfn : ∀ f, a.eval (.func f) = .func (.func f) #[] #[] := fun _ => rfl
        clear ha hF
        generalize a.eval = ρ at *
        simp [execOp, go_sem, hc, hfn]
      · rintro e w2 ⟨rfl, rfl⟩
        exact ⟨_, rfl, _, rfl, (span_is w1 127 127).less (Nat.le_trans hg.NB hg.size), Step.ofBelow (span_below w1 127 127)⟩
    | 34, ho =>
      obtain rfl := Option.some.inj ho
      clear ho
      intro vals w1 a hg hF ha
      have f0 := hF 32 (mem_ancs (by kernel_rfl))
      have e0 : a.eval (.tmp 38) = vals 32 := ((ha (.tmp 38) (by simp [Op.operands, Call.operands])).trans rfl)
      have f1 := hF 33 (mem_ancs (by kernel_rfl))
      have e1 : a.eval (.tmp 39) = vals 33 := ((ha (.tmp 39) (by simp [Op.operands, Call.operands])).trans rfl)
      obtain ⟨v, w2, hrun, hS, hB⟩ := slice2 (Nat.le_trans hg.NB hg.size) f0 f1
      refine ⟨rfl, .inl (wp_value (v := v) (w' := w2) ?_ ⟨_, rfl, hS, Step.ofBelow hB⟩)⟩
      clear f0 f1
      have hc : ∀ v, a.eval (.const v) = v := fun _ => rfl
      have hfn : ∀ f, a.eval (.func f) = .func (.func f) #[] #[] := fun _ => rfl
      clear ha hF
      generalize a.eval = ρ at *
      simp [execOp, e0, e1, hrun, Result.andThen]
    | 35, ho =>
      obtain rfl := Option.some.inj ho
      clear ho
      intro vals w1 a hg hF ha
      have f0 := hF 34 (mem_ancs (by kernel_rfl))
      have e0 : a.eval (.tmp 40) = vals 34 := ((ha (.tmp 40) (by simp [Op.operands, Call.operands])).trans rfl)
      refine ⟨rfl, .inl (wp_callE (f := 56) (args := #[vals 34]) (w1 := w1) ?_ ((some_of f0 (Nat.le_trans hg.NB hg.size) (by decide) (by decide)).mono ?_))⟩
      · clear f0
        have hc : ∀ v, a.eval (.const v) = v := fun _ => rfl
        have hfn : ∀ f, a.eval (.func f) = .func (.func f) #[] #[] := fun _ => rfl
        clear ha hF
        generalize a.eval = ρ at *
        simp [execOp, go_sem, e0, hc, hfn]
      · rintro e w2 ⟨u, rfl, hu, hB⟩
        exact ⟨_, rfl, _, rfl, hu, Step.ofBelow hB⟩
    | 36, ho =>
      obtain rfl := Option.some.inj ho
      clear ho
      intro vals w1 a hg hF ha
      obtain ⟨m, hm, hM⟩ := hF 0 (mem_ancs (by kernel_rfl))
      have f1 := IsV.as (hF 35 (mem_ancs (by kernel_rfl))) (show _ = (fun c => between 0 31 c || between 127 127 c) from by funext c; simp [anyF, Bool.or_assoc])
      obtain ⟨w2, hrun, hS, hH⟩ := insert_good hM (ByteArray.mk #[99, 110, 116, 114, 108]) (vals 35) _ rfl f1
      have e0 : a.eval (.tmp 15) = .map (some m) := ((ha (.tmp 15) (by simp [Op.operands, Call.operands])).trans rfl).trans hm
      have e1 : a.eval (.tmp 41) = vals 35 := ((ha (.tmp 41) (by simp [Op.operands, Call.operands])).trans rfl)
      refine ⟨rfl, .inl (wp_skip' (w' := w2) ?_ ⟨_, rfl, fun m' hm' => ?_, hS⟩)⟩
      · clear f1 hH
        have hc : ∀ v, a.eval (.const v) = v := fun _ => rfl
        have hfn : ∀ f, a.eval (.func f) = .func (.func f) #[] #[] := fun _ => rfl
        clear ha hF
        generalize a.eval = ρ at *
        simp [execOp, go_sem, e0, e1, hc, hrun]
      · have e : vals 0 = .map (some m') := hm'
        rw [hm] at e; cases e; exact hH
    | 37, ho =>
      obtain rfl := Option.some.inj ho
      clear ho
      intro vals w1 a hg hF ha
      refine ⟨rfl, .inl (wp_callE (f := 47) (args := #[.int .u8 32, .int .u8 126]) (w1 := w1) ?_ (Calls.mono (show Calls Tryd.prog 47 #[.int .u8 32, .int .u8 126] w1 _ from span_exact w1 32 126) ?_))⟩
      · clear hg
        have hc : ∀ v, a.eval (.const v) = v := fun _ => rfl
        have hfn : ∀ f, a.eval (.func f) = .func (.func f) #[] #[] := fun _ => rfl
        clear ha hF
        generalize a.eval = ρ at *
        simp [execOp, go_sem, hc, hfn]
      · rintro e w2 ⟨rfl, rfl⟩
        exact ⟨_, rfl, _, rfl, (span_is w1 32 126).less (Nat.le_trans hg.NB hg.size), Step.ofBelow (span_below w1 32 126)⟩
    | 38, ho =>
      obtain rfl := Option.some.inj ho
      clear ho
      intro vals w1 a hg hF ha
      obtain ⟨m, hm, hM⟩ := hF 0 (mem_ancs (by kernel_rfl))
      have f1 := hF 37 (mem_ancs (by kernel_rfl))
      obtain ⟨w2, hrun, hS, hH⟩ := insert_good hM (ByteArray.mk #[112, 114, 105, 110, 116]) (vals 37) _ rfl f1
      have e0 : a.eval (.tmp 15) = .map (some m) := ((ha (.tmp 15) (by simp [Op.operands, Call.operands])).trans rfl).trans hm
      have e1 : a.eval (.tmp 42) = vals 37 := ((ha (.tmp 42) (by simp [Op.operands, Call.operands])).trans rfl)
      refine ⟨rfl, .inl (wp_skip' (w' := w2) ?_ ⟨_, rfl, fun m' hm' => ?_, hS⟩)⟩
      · clear f1 hH
        have hc : ∀ v, a.eval (.const v) = v := fun _ => rfl
        have hfn : ∀ f, a.eval (.func f) = .func (.func f) #[] #[] := fun _ => rfl
        clear ha hF
        generalize a.eval = ρ at *
        simp [execOp, go_sem, e0, e1, hc, hrun]
      · have e : vals 0 = .map (some m') := hm'
        rw [hm] at e; cases e; exact hH
    | 39, ho =>
      obtain rfl := Option.some.inj ho
      clear ho
      intro vals w1 a hg hF ha
      have e0 : a.eval (.tmp 4) = .pointer (some ⟨w5.heap.size, 0, none⟩) := ((ha (.tmp 4) (by simp [Op.operands, Call.operands])).trans rfl)
      have e1 : a.eval (.tmp 5) = .pointer (some ⟨w5.heap.size + 1, 0, none⟩) := ((ha (.tmp 5) (by simp [Op.operands, Call.operands])).trans rfl)
      obtain ⟨u, hu, hI⟩ := hg.aln
      obtain ⟨u', hu', hI'⟩ := hg.gra
      refine ⟨rfl, .inl (wp_value (v := .func (.func 57) #[] #[.pointer (some ⟨w5.heap.size + 1, 0, none⟩), .pointer (some ⟨w5.heap.size, 0, none⟩)]) (w' := w1) ?_ ⟨_, rfl, named_is hu' hu hg.qN hg.pN hI' hI, Step.refl _ _ _⟩)⟩
      have hc : ∀ v, a.eval (.const v) = v := fun _ => rfl
      have hfn : ∀ f, a.eval (.func f) = .func (.func f) #[] #[] := fun _ => rfl
      clear ha hF
      generalize a.eval = ρ at *
      simp [execOp, go_sem, Instr.makeFunc, e0, e1]
    | 40, ho =>
      obtain rfl := Option.some.inj ho
      clear ho
      intro vals w1 a hg hF ha
      obtain ⟨m, hm, hM⟩ := hF 0 (mem_ancs (by kernel_rfl))
      have f1 := hF 39 (mem_ancs (by kernel_rfl))
      obtain ⟨w2, hrun, hS, hH⟩ := insert_good hM (ByteArray.mk #[112, 117, 110, 99, 116]) (vals 39) _ rfl f1
      have e0 : a.eval (.tmp 15) = .map (some m) := ((ha (.tmp 15) (by simp [Op.operands, Call.operands])).trans rfl).trans hm
      have e1 : a.eval (.tmp 43) = vals 39 := ((ha (.tmp 43) (by simp [Op.operands, Call.operands])).trans rfl)
      refine ⟨rfl, .inl (wp_skip' (w' := w2) ?_ ⟨_, rfl, fun m' hm' => ?_, hS⟩)⟩
      · clear f1 hH
        have hc : ∀ v, a.eval (.const v) = v := fun _ => rfl
        have hfn : ∀ f, a.eval (.func f) = .func (.func f) #[] #[] := fun _ => rfl
        clear ha hF
        generalize a.eval = ρ at *
        simp [execOp, go_sem, e0, e1, hc, hrun]
      · have e : vals 0 = .map (some m') := hm'
        rw [hm] at e; cases e; exact hH
    | 41, ho =>
      obtain rfl := Option.some.inj ho
      clear ho
      intro vals w1 a hg hF ha
      have f0 : vals 0 = vals 0 := rfl
      have e0 : a.eval (.tmp 15) = vals 0 := ((ha (.tmp 15) (by simp [Op.operands, Call.operands])).trans rfl).trans f0
      refine ⟨rfl, .inl (wp_value (v := vals 0) (w' := w1) ?_ ⟨_, rfl, rfl, Step.refl _ _ _⟩)⟩
      have hc : ∀ v, a.eval (.const v) = v := fun _ => rfl
      have hfn : ∀ f, a.eval (.func f) = .func (.func f) #[] #[] := fun _ => rfl
      clear ha hF
      generalize a.eval = ρ at *
      simp [execOp, go_sem, e0]
    | 42, ho =>
      obtain rfl := Option.some.inj ho
      clear ho
      intro vals w1 a hg hF ha
      have f0 : vals 41 = vals 0 := hF 41 (mem_ancs (by kernel_rfl))
      have e0 : a.eval (.tmp 44) = vals 0 := ((ha (.tmp 44) (by simp [Op.operands, Call.operands])).trans rfl).trans f0
      refine ⟨rfl, .inl (wp_value (v := vals 0) (w' := w1) ?_ ⟨_, rfl, rfl, Step.refl _ _ _⟩)⟩
      have hc : ∀ v, a.eval (.const v) = v := fun _ => rfl
      have hfn : ∀ f, a.eval (.func f) = .func (.func f) #[] #[] := fun _ => rfl
      clear ha hF
      generalize a.eval = ρ at *
      simp [execOp, go_sem, e0]
    | n + 43, ho => simp at ho
  · intro vals w6 hS hG hV
    obtain ⟨m, hm, hM⟩ := hV 0 (by decide)
    have hl : vals 42 = vals 0 := hV 42 (by decide)
    simp only [putList, Act.put]
    go_wp2_with fail
    go_ret
    simp
    rw [hl, hm]
    have e0 := hm
    have hD := hS.toBelow (Nat.le_refl _)
    have hD : Below W.heap.size W w6 := ⟨hD.os, hD.tape, hD.output, hD.size, hD.block⟩
    exact ⟨m, rfl, goodMap_of hM (hV 2 (by decide) m e0) (hV 4 (by decide) m e0) (hV 6 (by decide) m e0) (hV 8 (by decide) m e0) (hV 10 (by decide) m e0) (hV 15 (by decide) m e0) (hV 21 (by decide) m e0) (hV 26 (by decide) m e0) (hV 31 (by decide) m e0) (hV 36 (by decide) m e0) (hV 38 (by decide) m e0) (hV 40 (by decide) m e0), hB6.trans (hD.mono hB6.size)⟩
end Go.Proofs.YtkbfckigndkkkaaDoor
