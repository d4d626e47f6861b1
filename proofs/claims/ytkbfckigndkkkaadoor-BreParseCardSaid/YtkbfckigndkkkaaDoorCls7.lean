/-
  The map of the classes: what is put into it stays, and is good.
-/
import Derived.Test.YtkbfckigndkkkaaDoorCls2
import Derived.Test.YtkbfckigndkkkaaDoorReg
namespace Go.Proofs.YtkbfckigndkkkaaDoor
set_option linter.unusedSimpArgs false
set_option linter.unusedVariables false
open Go Go.RowKit

def GoodE (N : Nat) (w : World) (e : MapEntry) : Prop := ∃ k f, e.key = .string k ∧ clsOf k.data.toList = some f ∧ IsV N w e.val f
/-- Only maps change, and these grow. -/
structure Step (N B : Nat) (w w' : World) : Prop where
  os : w'.os = w.os
  tape : w'.tape = w.tape
  output : w'.output = w.output
  size : w.heap.size ≤ w'.heap.size
  block : ∀ k, k < w.heap.size → w'.heap[k]? = w.heap[k]? ∨ (B ≤ k ∧ ∃ es c es' c', w.heap[k]? = some (.map es c) ∧ w'.heap[k]? = some (.map es' c') ∧ (∀ e ∈ es.toList, ∃ e' ∈ es'.toList, e'.key = e.key) ∧ ((∀ e ∈ es.toList, GoodE N w e) → ∀ e ∈ es'.toList, GoodE N w' e))
theorem Step.refl (N B : Nat) (w : World) : Step N B w w := ⟨rfl, rfl, rfl, Nat.le_refl _, fun _ _ => .inl rfl⟩
theorem Step.cells {N B : Nat} {w w' : World} (h : Step N B w w') {j : Nat} (hj : CellB w j) : w'.heap[j]? = w.heap[j]? := by
  rcases h.block j hj.lt with h | ⟨-, es, c, es', c', h1, -⟩
  · exact h
  · obtain ⟨x, t, o, h2⟩ := hj
    rw [h2] at h1; cases h1
theorem Step.cell {N B : Nat} {w w' : World} (h : Step N B w w') {g i : Nat} {v : Value} (hc : w.cell? ⟨g, i, none⟩ = some v) : w'.cell? ⟨g, i, none⟩ = some v := by
  rw [World.cell?_of_block (w := w) (h.cells (cellB_of_cell hc))]; exact hc
theorem IsV.step {N B : Nat} {w w' : World} {v : Value} {f : UInt8 → Bool} (h : IsV N w v f) (hs : Step N B w w') : IsV N w' v f := h.keep fun _ _ hj => hs.cells hj
theorem GoodE.step {N B : Nat} {w w' : World} {e : MapEntry} (h : GoodE N w e) (hs : Step N B w w') : GoodE N w' e := by
  obtain ⟨k, f, h1, h2, h3⟩ := h
  exact ⟨k, f, h1, h2, h3.step hs⟩
theorem Step.trans {N B : Nat} {w w1 w2 : World} (h1 : Step N B w w1) (h2 : Step N B w1 w2) : Step N B w w2 := by
  refine ⟨h2.os.trans h1.os, h2.tape.trans h1.tape, h2.output.trans h1.output, Nat.le_trans h1.size h2.size, fun k hk => ?_⟩
  rcases h1.block k hk with e1 | ⟨hB, es, c, es', c', a1, a2, a3, a4⟩
  · rcases h2.block k (Nat.lt_of_lt_of_le hk h1.size) with e2 | ⟨hB, es, c, es', c', b1, b2, b3, b4⟩
    · exact .inl (e2.trans e1)
    · refine .inr ⟨hB, es, c, es', c', e1 ▸ b1, b2, b3, fun hg => b4 fun e he => (hg e he).step h1⟩
  · rcases h2.block k (Nat.lt_of_lt_of_le hk h1.size) with e2 | ⟨-, fs, d, fs', d', b1, b2, b3, b4⟩
    · exact .inr ⟨hB, es, c, es', c', a1, e2.trans a2, a3, fun hg e he => (a4 hg e he).step h2⟩
    · rw [a2] at b1
      cases b1
      refine .inr ⟨hB, es, c, fs', d', a1, b2, fun e he => ?_, fun hg => b4 (a4 hg)⟩
      obtain ⟨e1, h3, h4⟩ := a3 e he
      obtain ⟨e2, h5, h6⟩ := b3 e1 h3
      exact ⟨e2, h5, h6.trans h4⟩
theorem Step.ofBelow {N B : Nat} {w w' : World} (h : Below w.heap.size w w') : Step N B w w' := ⟨h.os, h.tape, h.output, h.size, fun k hk => .inl (h.block k hk)⟩
theorem Step.toBelow {N B : Nat} {w w' : World} (h : Step N B w w') (hB : B ≤ w.heap.size) : Below B w w' := ⟨h.os, h.tape, h.output, h.size, fun k hk => by
  rcases h.block k (by omega) with h | ⟨h, -⟩
  · exact h
  · omega⟩
/-- A map that is good. -/
def MapG (N B : Nat) (w : World) (m : Nat) : Prop := B ≤ m ∧ ∃ es c, w.heap[m]? = some (.map es c) ∧ ∀ e ∈ es.toList, GoodE N w e
def MapH (w : World) (m : Nat) (k : ByteArray) : Prop := ∃ es c, w.heap[m]? = some (.map es c) ∧ ∃ e ∈ es.toList, e.key = .string k
theorem MapG.step {N B : Nat} {w w' : World} {m : Nat} (h : MapG N B w m) (hs : Step N B w w') : MapG N B w' m := by
  obtain ⟨hB, es, c, h1, h2⟩ := h
  rcases hs.block m (lt_of_heap h1) with e | ⟨-, fs, d, es', c', b1, b2, b3, b4⟩
  · exact ⟨hB, es, c, e.trans h1, fun e he => (h2 e he).step hs⟩
  · rw [h1] at b1; cases b1
    exact ⟨hB, es', c', b2, b4 h2⟩
theorem MapH.step {N B : Nat} {w w' : World} {m : Nat} {k : ByteArray} (h : MapH w m k) (hs : Step N B w w') : MapH w' m k := by
  obtain ⟨es, c, h1, e, h2, h3⟩ := h
  rcases hs.block m (lt_of_heap h1) with e0 | ⟨-, fs, d, es', c', b1, b2, b3, b4⟩
  · exact ⟨es, c, e0.trans h1, e, h2, h3⟩
  · rw [h1] at b1; cases b1
    obtain ⟨e', h4, h5⟩ := b3 e h2
    exact ⟨es', c', b2, e', h4, h5.trans h3⟩
/-- One more entry. -/
theorem insert_good {N B : Nat} {w : World} {m : Nat} (hm : MapG N B w m) (key : ByteArray) (v : Value) (f : UInt8 → Bool) (hf : clsOf key.data.toList = some f) (hv : IsV N w v f) :
    ∃ w', (Instr.mapUpdate 90 (.map (some m)) (.string key) v).run Tryd.prog w = .ok () w' ∧ Step N B w w' ∧ MapH w' m key := by
  obtain ⟨hB, es, c, hh, hall⟩ := hm
  have hk : MapKept.IsKey .string (.string key) := trivial
  have hu : Tryd.prog.underlying 9 = some .string := Tryd.underlying9
  have hus := Tryd.underlying90
  have fin : ∀ (es' : Array MapEntry) (c' : Nat), (∀ e ∈ es.toList, ∃ e' ∈ es'.toList, e'.key = e.key) → (∃ e' ∈ es'.toList, e'.key = .string key) → (∀ e ∈ es'.toList, GoodE N w e) →
      Step N B w { w with heap := w.heap.setIfInBounds m (.map es' c') } ∧ MapH { w with heap := w.heap.setIfInBounds m (.map es' c') } m key := by
    intro es' c' h1 h2 h3
    have q1 := (MapKept.heap_set (o' := Obj.map es' c') hh).1
    have q2 := (MapKept.heap_set (o' := Obj.map es' c') hh).2
    have hk : ∀ j, N ≤ j → CellB w j → ({ w with heap := w.heap.setIfInBounds m (.map es' c') } : World).heap[j]? = w.heap[j]? := fun j _ hj => q2 j (by
      rintro rfl
      obtain ⟨x, t, o, h5⟩ := hj
      rw [hh] at h5; cases h5)
    refine ⟨⟨rfl, rfl, rfl, by simp, fun k hk' => ?_⟩, es', c', q1, h2⟩
    by_cases hkm : k = m
    · subst hkm
      exact .inr ⟨hB, es, c, es', c', hh, q1, h1, fun _ e he => by
        obtain ⟨k, f, a1, a2, a3⟩ := h3 e he
        exact ⟨k, f, a1, a2, a3.keep hk⟩⟩
    · exact .inl (q2 k hkm)
  rcases MapKept.findNow_spec hk es.toList 0 (fun e he => by obtain ⟨q, f, hq, -⟩ := hall e he; rw [hq]; trivial) with ⟨h1, h2⟩ | ⟨j, e, h1, h2, h3⟩
  · refine ⟨_, ?_, fin (es.push { key := .string key, val := v, born := c }) (c + 1) ?_ ?_ ?_⟩
    · simp [Instr.mapUpdate, run_underlying hus, MapKept.run_getObj_map hh, MapKept.run_checkKey hu hk, MapKept.run_findKey hu h1, MapKept.run_setObj_map _ hh, Result.andThen]
    · intro e he; exact ⟨e, by simp [he], rfl⟩
    · exact ⟨{ key := .string key, val := v, born := c }, by simp, rfl⟩
    · intro e he
      simp only [Array.toList_push, List.mem_append, List.mem_singleton] at he
      rcases he with he | rfl
      · exact hall e he
      · exact ⟨key, f, rfl, hf, hv⟩
  · have hj : es[j]? = some e := by simpa using h2
    have hget : ∀ i, (es.modify j fun e => { e with key := .string key, val := v })[i]? = if j = i then (es[i]?).map (fun e => { e with key := .string key, val := v }) else es[i]? := fun i => by
      rw [Array.getElem?_modify]
    refine ⟨_, ?_, fin (es.modify j fun e => { e with key := .string key, val := v }) c ?_ ?_ ?_⟩
    · simp [Instr.mapUpdate, run_underlying hus, MapKept.run_getObj_map hh, MapKept.run_checkKey hu hk, MapKept.run_findKey hu h1, hj, h3, MapKept.run_keyThatStays hk, MapKept.run_setObj_map _ hh, Result.andThen]
    · intro x hx
      obtain ⟨i, hi⟩ := List.getElem?_of_mem hx
      have hi' : es[i]? = some x := by simpa using hi
      have hg := hget i
      by_cases hji : j = i
      · subst hji
        rw [if_pos rfl, hi'] at hg
        refine ⟨_, Array.mem_toList_iff.2 (Array.mem_of_getElem? hg), ?_⟩
        rw [hj] at hi'; cases hi'
        exact h3.symm
      · rw [if_neg hji, hi'] at hg
        exact ⟨x, Array.mem_toList_iff.2 (Array.mem_of_getElem? hg), rfl⟩
    · have hg := hget j
      rw [if_pos rfl, hj] at hg
      exact ⟨_, Array.mem_toList_iff.2 (Array.mem_of_getElem? hg), rfl⟩
    · intro x hx
      obtain ⟨i, hi⟩ := List.getElem?_of_mem hx
      have hi' : (es.modify j fun e => { e with key := .string key, val := v })[i]? = some x := by rw [← Array.getElem?_toList]; exact hi
      rw [hget] at hi'
      by_cases hji : j = i
      · rw [if_pos hji] at hi'
        subst hji
        rw [hj] at hi'
        cases hi'
        exact ⟨key, f, rfl, hf, hv⟩
      · rw [if_neg hji] at hi'
        exact hall x (Array.mem_toList_iff.2 (Array.mem_of_getElem? hi'))
/-- A slice of closures. -/
def SliceV (N : Nat) (w : World) (v : Value) (fs : List (UInt8 → Bool)) : Prop :=
  ∃ (g : Nat) (vs : List Value), v = .slice (some ⟨g, 0, none⟩) vs.length vs.length ∧ N ≤ g ∧ fs.length = vs.length ∧ (∀ (i : Nat) u, vs[i]? = some u → w.cell? ⟨g, i, none⟩ = some u) ∧ ∀ (i : Nat) u f, vs[i]? = some u → fs[i]? = some f → IsV N w u f
theorem SliceV.step {N B : Nat} {w w' : World} {v : Value} {fs : List (UInt8 → Bool)} (h : SliceV N w v fs) (hs : Step N B w w') : SliceV N w' v fs := by
  obtain ⟨g, vs, h1, h2, h3, h4, h5⟩ := h
  exact ⟨g, vs, h1, h2, h3, fun i u hu => hs.cell (h4 i u hu), fun i u f hu hf => (h5 i u f hu hf).step hs⟩
theorem IsV.as {N : Nat} {w : World} {v : Value} {f g : UInt8 → Bool} (h : IsV N w v f) (hfg : f = g) : IsV N w v g := hfg ▸ h
end Go.Proofs.YtkbfckigndkkkaaDoor

/-
  What the map of the classes is made of.
-/
namespace Go.Proofs.YtkbfckigndkkkaaDoor
open Go Go.RowKit

theorem build2 (w : World) (k1 k2 : FuncId) (c1 c2 : Array Value) : (Instr.buildSlice 110 2 #[(0, .func (.func k1) #[] c1), (1, .func (.func k2) #[] c2)]).run Tryd.prog w =
    .ok (.slice (some ⟨w.heap.size, 0, none⟩) 2 2) (w.alloc (.cells #[.func (.func k1) #[] c1, .func (.func k2) #[] c2] 77)) := by kernel_rfl
theorem build3 (w : World) (k1 k2 k3 : FuncId) (c1 c2 c3 : Array Value) : (Instr.buildSlice 110 3 #[(0, .func (.func k1) #[] c1), (1, .func (.func k2) #[] c2), (2, .func (.func k3) #[] c3)]).run Tryd.prog w =
    .ok (.slice (some ⟨w.heap.size, 0, none⟩) 3 3) (w.alloc (.cells #[.func (.func k1) #[] c1, .func (.func k2) #[] c2, .func (.func k3) #[] c3] 77)) := by kernel_rfl
theorem slice_new {N : Nat} {w : World} (vs : List Value) (fs : List (UInt8 → Bool)) (hl : fs.length = vs.length) (hN : N ≤ w.heap.size) (hv : ∀ (i : Nat) u f, vs[i]? = some u → fs[i]? = some f → IsV N w u f) :
    SliceV N (w.alloc (.cells vs.toArray 77)) (.slice (some ⟨w.heap.size, 0, none⟩) vs.length vs.length) fs := by
  have q0 : (w.alloc (.cells vs.toArray 77)).heap[w.heap.size]? = some (.cells vs.toArray 77 (0, 0)) := hq_eq rfl
  refine ⟨w.heap.size, vs, rfl, hN, hl, fun i u hu => ?_, fun i u f hu hf => (hv i u f hu hf).keep fun j _ hj => heap_alloc_lt hj.lt⟩
  rw [cell_of_heap q0]; simpa using hu
theorem slice2 {N : Nat} {w : World} {u1 u2 : Value} {f1 f2 : UInt8 → Bool} (hN : N ≤ w.heap.size) (h1 : IsV N w u1 f1) (h2 : IsV N w u2 f2) :
    ∃ v w', (Instr.buildSlice 110 2 #[(0, u1), (1, u2)]).run Tryd.prog w = .ok v w' ∧ SliceV N w' v [f1, f2] ∧ Below w.heap.size w w' := by
  obtain ⟨k1, c1, rfl, a1, b1⟩ := id h1
  obtain ⟨k2, c2, rfl, a2, b2⟩ := id h2
  refine ⟨_, _, build2 w k1 k2 c1 c2, slice_new [_, _] [f1, f2] rfl hN fun i u f hu hf => ?_, (Below.refl _ _).alloc (Nat.le_refl _) _⟩
  match i, hu, hf with
  | 0, hu, hf => cases hu; cases hf; exact h1
  | 1, hu, hf => cases hu; cases hf; exact h2
  | n + 2, hu, hf => simp at hu
theorem slice3 {N : Nat} {w : World} {u1 u2 u3 : Value} {f1 f2 f3 : UInt8 → Bool} (hN : N ≤ w.heap.size) (h1 : IsV N w u1 f1) (h2 : IsV N w u2 f2) (h3 : IsV N w u3 f3) :
    ∃ v w', (Instr.buildSlice 110 3 #[(0, u1), (1, u2), (2, u3)]).run Tryd.prog w = .ok v w' ∧ SliceV N w' v [f1, f2, f3] ∧ Below w.heap.size w w' := by
  obtain ⟨k1, c1, rfl, a1, b1⟩ := id h1
  obtain ⟨k2, c2, rfl, a2, b2⟩ := id h2
  obtain ⟨k3, c3, rfl, a3, b3⟩ := id h3
  refine ⟨_, _, build3 w k1 k2 k3 c1 c2 c3, slice_new [_, _, _] [f1, f2, f3] rfl hN fun i u f hu hf => ?_, (Below.refl _ _).alloc (Nat.le_refl _) _⟩
  match i, hu, hf with
  | 0, hu, hf => cases hu; cases hf; exact h1
  | 1, hu, hf => cases hu; cases hf; exact h2
  | 2, hu, hf => cases hu; cases hf; exact h3
  | n + 3, hu, hf => simp at hu
theorem some_of {N : Nat} {w : World} {v : Value} {fs : List (UInt8 → Bool)} (h : SliceV N w v fs) (hN : N ≤ w.heap.size) (h0 : 0 < fs.length) (h10 : fs.length ≤ 10) :
    Calls Tryd.prog 56 #[v] w fun e w' => ∃ u, e = .returned u ∧ IsV N w' u (anyF fs) ∧ Below w.heap.size w w' := by
  obtain ⟨g, vs, rfl, h2, h3, h4, h5⟩ := h
  exact some_any N w g vs fs h3 (by omega) hN h2 h4 (by omega) h5
theorem named_is {N : Nat} {w : World} {p q : Nat} {u v : Value} {f h : UInt8 → Bool} (hp : w.cell? ⟨p, 0, none⟩ = some u) (hq : w.cell? ⟨q, 0, none⟩ = some v) (hNp : N ≤ p) (hNq : N ≤ q) (hu : IsV N w u f) (hv : IsV N w v h) :
    IsV N w (.func (.func 57) #[] #[.pointer (some ⟨p, 0, none⟩), .pointer (some ⟨q, 0, none⟩)]) fun c => f c && !h c := by
  refine ⟨_, _, rfl, fun _ _ => rfl, fun w' hk c => ?_⟩
  exact named1_any N w w' p q u v f h c (by rw [World.cell?_of_block (w := w) (hk p hNp (cellB_of_cell hp))]; exact hp) (by rw [World.cell?_of_block (w := w) (hk q hNq (cellB_of_cell hq))]; exact hq) hu hv hk
theorem Step.newMap {N B : Nat} {w : World} (hB : B ≤ w.heap.size) : Step N B w (w.alloc (.map #[] 0)) ∧ MapG N B (w.alloc (.map #[] 0)) w.heap.size :=
  ⟨Step.ofBelow ((Below.refl _ _).alloc (Nat.le_refl _) _), hB, #[], 0, hq_eq rfl, by simp⟩
/-- A call in a region. -/
theorem wp_callE {P : Program} {o : Oper} {a : Act} {w w1 : World} {f : FuncId} {args : Array Value} {K : Act → World → Prop} {Q : Exit → Act → World → Prop}
    (h : (execOp a.eval o).run P w = .ok (.enter f args) w1) (hc : Calls P f args w1 fun e w2 => ∃ v, e = .returned v ∧ K (a.put o.dst v) w2) : o.wp P a w K Q := by
  unfold Oper.wp; rw [h]
  refine hc.mono ?_
  rintro e w2 ⟨v, rfl, hK⟩
  exact hK
theorem hasKey {w : World} {m : Nat} {es : Array MapEntry} {c : Nat} (hh : w.heap[m]? = some (.map es c)) {K : ByteArray} (h : MapH w m K) {k : ByteArray} (hk : k.data.toList = K.data.toList) : ∃ e ∈ es.toList, e.key = .string k := by
  obtain ⟨es', c', h1, h2⟩ := h
  rw [hh] at h1; cases h1
  have : k = K := by
    cases k; cases K
    congr 1
    exact Array.toList_inj.1 hk
  rw [this]; exact h2
theorem clsOf_names (l : List UInt8) (h : clsOf l ≠ none) : l = [108, 111, 119, 101, 114] ∨ l = [117, 112, 112, 101, 114] ∨ l = [100, 105, 103, 105, 116] ∨ l = [97, 108, 110, 117, 109] ∨ l = [103, 114, 97, 112, 104] ∨ l = [97, 108, 112, 104, 97] ∨ l = [120, 100, 105, 103, 105, 116] ∨ l = [115, 112, 97, 99, 101] ∨ l = [98, 108, 97, 110, 107] ∨ l = [99, 110, 116, 114, 108] ∨ l = [112, 114, 105, 110, 116] ∨ l = [112, 117, 110, 99, 116] := by
  apply Classical.byContradiction
  intro hn
  simp only [not_or] at hn
  obtain ⟨n0, n1, n2, n3, n4, n5, n6, n7, n8, n9, n10, n11⟩ := hn
  apply h
  unfold clsOf
  dsimp only
  rw [if_neg n0, if_neg n1, if_neg n2, if_neg n3, if_neg n4, if_neg n5, if_neg n6, if_neg n7, if_neg n8, if_neg n9, if_neg n10, if_neg n11]
theorem goodMap_of {N B : Nat} {w : World} {m : Nat} (hM : MapG N B w m) (h0 : MapH w m (ByteArray.mk #[108, 111, 119, 101, 114])) (h1 : MapH w m (ByteArray.mk #[117, 112, 112, 101, 114])) (h2 : MapH w m (ByteArray.mk #[100, 105, 103, 105, 116])) (h3 : MapH w m (ByteArray.mk #[97, 108, 110, 117, 109])) (h4 : MapH w m (ByteArray.mk #[103, 114, 97, 112, 104])) (h5 : MapH w m (ByteArray.mk #[97, 108, 112, 104, 97])) (h6 : MapH w m (ByteArray.mk #[120, 100, 105, 103, 105, 116])) (h7 : MapH w m (ByteArray.mk #[115, 112, 97, 99, 101])) (h8 : MapH w m (ByteArray.mk #[98, 108, 97, 110, 107])) (h9 : MapH w m (ByteArray.mk #[99, 110, 116, 114, 108])) (h10 : MapH w m (ByteArray.mk #[112, 114, 105, 110, 116])) (h11 : MapH w m (ByteArray.mk #[112, 117, 110, 99, 116])) : GoodMap N w m := by
  obtain ⟨hB, es, c, hh, hall⟩ := hM
  refine ⟨es, c, hh, hall, fun k hk => ?_⟩
  rcases clsOf_names _ hk with h | h | h | h | h | h | h | h | h | h | h | h
  · exact hasKey hh h0 h
  · exact hasKey hh h1 h
  · exact hasKey hh h2 h
  · exact hasKey hh h3 h
  · exact hasKey hh h4 h
  · exact hasKey hh h5 h
  · exact hasKey hh h6 h
  · exact hasKey hh h7 h
  · exact hasKey hh h8 h
  · exact hasKey hh h9 h
  · exact hasKey hh h10 h
  · exact hasKey hh h11 h
end Go.Proofs.YtkbfckigndkkkaaDoor
