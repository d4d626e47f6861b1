/-
  The document's reader of patterns: its state in memory; its small methods.
-/
import Derived.Test.YtkbfckigndkkkaaDoorBw1
import Derived.Deep.RegionWith
namespace Go.Proofs.YtkbfckigndkkkaaDoor
set_option linter.unusedSimpArgs false
set_option linter.unusedVariables false
open Go Go.RowKit

/-! ## Nodes -/
@[go_sem ↓] theorem zeroRN (w : World) : (zeroValue 60).run Tryd.prog w = .ok (.agg (ndA 0 0 noS 0 0 0 (.slice none 0 0))) w := by kernel_rfl
theorem infoRN : (Tryd.prog.info? 60).map (·.size) = some 262 := by kernel_rfl
theorem infoRNSome : ∃ i : TypeInfo, Tryd.prog.info? 60 = some i ∧ i.zero = some (.agg (ndA 0 0 noS 0 0 0 (.slice none 0 0))) ∧ i.size = 262 ∧ i.bytes = 320 :=
  info_parts (by kernel_rfl)
section
variable {ops : Array Oper} {rest : List Oper} {dst : Option Tmp} {ty : TypeId} {pos : String} {after : Array Edge} {a : Act} {w : World} {Q : Exit → Act → World → Prop}
theorem ldRN {x : Operand} {g : Nat} {cs : Array Value} {t : TypeId} {fr : Nat × Nat} (hx : a.eval x = .pointer (some ⟨g, 0, none⟩)) (hg : w.heap[g]? = some (.cells cs t fr)) (hn : cs.size = 262)
    (h : wpList Tryd.prog ops Q rest (a.put dst (.agg cs)) w) : wpList Tryd.prog ops Q (⟨dst, .load 60 x, ty, pos, after, none⟩ :: rest) a w :=
  ldRow Tryd.underlying60 rfl infoRN hx hg hn h
theorem stRN {x y : Operand} {g : Nat} {cs old : Array Value} {t : TypeId} (hx : a.eval x = .pointer (some ⟨g, 0, none⟩)) (hy : a.eval y = .agg cs) (hg : w.heap[g]? = some (.cells old t (0, 0)))
    (ho : old.size = 262) (hn : cs.size = 262) (h1 : cs.all (·.oneCell') = true)
    (h : wpList Tryd.prog ops Q rest a (w.setRow g cs)) : wpList Tryd.prog ops Q (⟨none, .store 60 x y, ty, pos, after, none⟩ :: rest) a w :=
  stRow infoRN hx hy hg ho hn h1 h
theorem bsRN {x : Operand} {N : Array Value} (hx : a.eval x = .agg N) (hN : N.size = 262)
    (h : wpList Tryd.prog ops Q rest (a.put dst (.slice (some ⟨w.heap.size, 0, none⟩) 1 1)) (w.alloc (.cells N 60))) : wpList Tryd.prog ops Q (⟨dst, .buildSlice 35 1 #[(0, x)], ty, pos, after, none⟩ :: rest) a w :=
  bsRow Tryd.underlying35 zeroRN (fun _ => Tryd.sizeOf60 _) (by decide) (by decide) hx hN h
theorem retRN {fn : Func} {R : Ending → World → Prop} {p : Tmp} {g : Nat} {cs : Array Value} {t : TypeId} {fr : Nat × Nat} (hf : fn.results = #[.cell p 60]) (hd : a.defers = [])
    (hp : a.tmps.getD p undef = .pointer (some ⟨g, 0, none⟩)) (hg : w.heap[g]? = some (.cells cs t fr)) (hn : cs.size = 262) (hR : R (.returned (.agg cs)) w) : bodyPost Tryd.prog fn R .ret a w :=
  bodyPost_ret (results_cell_row hf a.tmps w g t cs fr _ hp hg Tryd.underlying60 rfl (by rw [infoRN, hn])) hd hR
end

/-! ## The reader's state -/
structure RSt where
  pl : Nat
  g : Nat
  many : Nat
  ended : Nat → Bool
  refs : Bool
  bad : Bool
def endL (f : Nat → Bool) : List Value := (List.range 1000).map fun i => .bool (f i)
def rdL (s : ByteArray) (st : RSt) : List Value := .string s :: .int .i64 st.pl :: .int .i64 st.g :: .int .i64 st.many :: (endL st.ended ++ [.bool st.refs, .bool st.bad])
def rdA (s : ByteArray) (st : RSt) : Array Value := (rdL s st).toArray
theorem endL_length (f : Nat → Bool) : (endL f).length = 1000 := by simp [endL]
theorem rdL_length (s : ByteArray) (st : RSt) : (rdL s st).length = 1006 := by simp [rdL, endL_length]
def RW (w : World) (b : Nat) (s : ByteArray) (st : RSt) : Prop := w.heap[b]? = some (.cells (rdA s st) 56 (0, 0))
def upE (f : Nat → Bool) (n : Nat) : Nat → Bool := fun i => if i = n then true else f i
theorem rdL_hi (a b c d : Value) (e xs : List Value) (he : e.length = 1000) (i : Nat) (h : 1004 ≤ i) : (a :: b :: c :: d :: (e ++ xs))[i]? = xs[i - 1004]? := by
  obtain ⟨j, rfl⟩ : ∃ j, i = j + 4 := ⟨i - 4, by omega⟩
  simp only [List.getElem?_cons_succ]
  rw [List.getElem?_append_right (by omega), he, show j + 4 - 1004 = j - 1000 by omega]
theorem rdL_set_hi (a b c d v : Value) (e xs : List Value) (he : e.length = 1000) (i : Nat) (h : 1004 ≤ i) : (a :: b :: c :: d :: (e ++ xs)).set i v = a :: b :: c :: d :: (e ++ xs.set (i - 1004) v) := by
  obtain ⟨j, rfl⟩ : ∃ j, i = j + 4 := ⟨i - 4, by omega⟩
  simp only [List.set_cons_succ]
  rw [List.set_append_right _ _ (by omega), he, show j + 4 - 1004 = j - 1000 by omega]
theorem rdL_set_mid (a b c d v : Value) (e xs : List Value) (he : e.length = 1000) (i : Nat) (h : i < 1000) : (a :: b :: c :: d :: (e ++ xs)).set (4 + i) v = a :: b :: c :: d :: (e.set i v ++ xs) := by
  rw [Nat.add_comm]
  simp only [List.set_cons_succ]
  rw [List.set_append_left _ _ (by omega)]
theorem endL_set (f : Nat → Bool) (i : Nat) : (endL f).set i (.bool true) = endL (upE f i) := by
  apply List.ext_getElem?
  intro j
  rw [List.getElem?_set]
  simp only [endL, List.length_map, List.length_range, List.getElem?_map]
  by_cases hj : i = j
  · subst hj
    rw [if_pos rfl]
    by_cases hi : i < 1000
    · rw [if_pos hi, List.getElem?_range hi]; simp [upE]
    · rw [if_neg hi, List.getElem?_eq_none (by simpa using hi)]; rfl
  · rw [if_neg hj]
    by_cases hi : j < 1000
    · rw [List.getElem?_range hi]; simp [upE, Ne.symm hj]
    · rw [List.getElem?_eq_none (by simpa using hi)]; rfl
section
variable {w w' : World} {b : Nat} {s : ByteArray} {st : RSt}
theorem RW.lt (h : RW w b s st) : b < w.heap.size := lt_of_heap h
theorem RW.cell (h : RW w b s st) (i : Nat) : w.cell? ⟨b, i, none⟩ = (rdL s st)[i]? := by rw [cell_of_heap h]; simp [rdA]
theorem RW.c0 (h : RW w b s st) : w.cell? ⟨b, 0, none⟩ = some (.string s) := by rw [h.cell]; rfl
theorem RW.c1 (h : RW w b s st) : w.cell? ⟨b, 1, none⟩ = some (.int .i64 st.pl) := by rw [h.cell]; rfl
theorem RW.c2 (h : RW w b s st) : w.cell? ⟨b, 2, none⟩ = some (.int .i64 st.g) := by rw [h.cell]; rfl
theorem RW.c3 (h : RW w b s st) : w.cell? ⟨b, 3, none⟩ = some (.int .i64 st.many) := by rw [h.cell]; rfl
theorem RW.c5 (h : RW w b s st) : w.cell? ⟨b, 1004, none⟩ = some (.bool st.refs) := by rw [h.cell]; unfold rdL; rw [rdL_hi _ _ _ _ _ _ (endL_length _) _ (by omega)]; rfl
theorem RW.c6 (h : RW w b s st) : w.cell? ⟨b, 1005, none⟩ = some (.bool st.bad) := by rw [h.cell]; unfold rdL; rw [rdL_hi _ _ _ _ _ _ (endL_length _) _ (by omega)]; rfl
theorem RW.ce (h : RW w b s st) {i : Nat} (hi : i < 1000) : w.cell? ⟨b, 4 + i, none⟩ = some (.bool (st.ended i)) := by
  rw [h.cell, Nat.add_comm]
  unfold rdL
  simp only [List.getElem?_cons_succ]
  rw [List.getElem?_append_left (by rw [endL_length]; exact hi)]
  simp [endL, hi]
theorem RW.free (h : RW w b s st) (i : Nat) : w.frozen? ⟨b, i, none⟩ = false := free_of_heap h i
theorem RW.set (h : RW w b s st) (i : Nat) (v : Value) (st' : RSt) (e : (rdL s st).set i v = rdL s st') : RW (w.setCell ⟨b, i, none⟩ v) b s st' := by
  unfold RW
  rw [heap_setCell_at h i v]
  unfold rdA
  rw [List.setIfInBounds_toArray, e]
theorem RW.setPl (h : RW w b s st) {p : Int} (q : Nat) (hp : p = q) : RW (w.setCell ⟨b, 1, none⟩ (.int .i64 p)) b s { st with pl := q } := h.set 1 _ _ (by rw [hp]; rfl)
theorem RW.setG (h : RW w b s st) {p : Int} (q : Nat) (hp : p = q) : RW (w.setCell ⟨b, 2, none⟩ (.int .i64 p)) b s { st with g := q } := h.set 2 _ _ (by rw [hp]; rfl)
theorem RW.setMany (h : RW w b s st) {p : Int} (q : Nat) (hp : p = q) : RW (w.setCell ⟨b, 3, none⟩ (.int .i64 p)) b s { st with many := q } := h.set 3 _ _ (by rw [hp]; rfl)
theorem RW.setRefs (h : RW w b s st) (v : Bool) : RW (w.setCell ⟨b, 1004, none⟩ (.bool v)) b s { st with refs := v } := h.set 1004 _ _ (by unfold rdL; rw [rdL_set_hi _ _ _ _ _ _ _ (endL_length _) _ (by omega)]; rfl)
theorem RW.setBad (h : RW w b s st) (v : Bool) : RW (w.setCell ⟨b, 1005, none⟩ (.bool v)) b s { st with bad := v } := h.set 1005 _ _ (by unfold rdL; rw [rdL_set_hi _ _ _ _ _ _ _ (endL_length _) _ (by omega)]; rfl)
theorem RW.setEnd (h : RW w b s st) {i : Nat} (hi : i < 1000) : RW (w.setCell ⟨b, 4 + i, none⟩ (.bool true)) b s { st with ended := upE st.ended i } := h.set (4 + i) _ _ (by unfold rdL; rw [rdL_set_mid _ _ _ _ _ _ _ (endL_length _) _ hi, endL_set])
theorem RW.alloc (h : RW w b s st) (o : Obj) : RW (w.alloc o) b s st := (heap_alloc_lt h.lt).trans h
theorem RW.drew (h : RW w b s st) : RW w.drew b s st := h
theorem RW.below (h : RW w b s st) (hb : Below w.heap.size w w') : RW w' b s st := (hb.block b h.lt).trans h
theorem RW.setRow (h : RW w b s st) {k : Nat} (cs : Array Value) (hk : b ≠ k) : RW (w.setRow k cs) b s st := (hq_row hk).trans h
end
/-- Keeps the nodes' rows where only the reader's block is turned. -/
theorem keepRN {w w' : World} {b : Nat} {D : Nat → Prop} {s : ByteArray} {st : RSt} (hP : RW w b s st) (h : Upd (atB b) w w') : Keep D 60 w w' :=
  Keep.ofUpd h fun k cs fr _ hk hs => by
    have e : k = b := hs
    subst e
    rw [hP] at hk; cases hk

/-! ## What the reader computes -/
def rNode (st : RSt) (n : Nat) : RSt := { st with many := st.many + 1, pl := st.pl + n }
/-- Where it stands in its bounds. -/
structure RInv (s : ByteArray) (st : RSt) : Prop where
  pl : st.pl ≤ s.size
  many : st.many ≤ st.pl
  g : st.g ≤ 900
set_option maxRecDepth 100000 in set_option maxHeartbeats 400000 in
theorem rnode_any (w : World) (b : Nat) (s : ByteArray) (st : RSt) (N : Array Value) (n : Nat) (hP : RW w b s st) (hI : RInv s st) (hl : s.size ≤ 1000) (hn : n ≤ 1000) (hN : N.size = 262) (hN1 : N.all (·.oneCell') = true) :
    Calls Tryd.prog 33 #[.pointer (some ⟨b, 0, none⟩), .agg N, .int .i64 n] w fun e w' => e = .returned (.agg N) ∧ RW w' b s (rNode st n) ∧ Upd (atB b) w w' := by
  have hb := hP.lt
  have c1 := hP.c1
  have c3 := hP.c3
  have f1 := hP.free 1
  have f3 := hP.free 3
  have i1 := hI.pl
  have i2 := hI.many
  go_enter Tryd.func33, Tryd.ntmps33
  go_wp2_with (first | ((with_reducible apply ldRN); (focus rfl); (focus ((try simp (disch := (first | (simp only [sz_alloc, sz_set, sz_row, sz_drew, sz_drewN] <;> omega) | omega)) only [hq_eq, hq_ne, hq_set, hq_row, hq_drew, hq_drewN]) <;> (first | rfl | assumption))); (focus (first | assumption | exact ndA_size _ _ _ _ _ _ _))) | ((with_reducible apply stRN); (focus rfl); (focus rfl); (focus ((try simp (disch := (first | (simp only [sz_alloc, sz_set, sz_row, sz_drew, sz_drewN] <;> omega) | omega)) only [hq_eq, hq_ne, hq_set, hq_row, hq_drew, hq_drewN]) <;> (first | rfl | assumption))); (focus (first | assumption | exact ndA_size _ _ _ _ _ _ _)); (focus (first | assumption | exact ndA_size _ _ _ _ _ _ _)); (focus (first | assumption | exact ndA_one _ _ _ _ _ _ _ rfl))))
  refine retRN rfl rfl rfl (setRow_heap _ _ _ _ _ _ (by (focus ((try simp (disch := (first | (simp only [sz_alloc, sz_set, sz_row, sz_drew, sz_drewN] <;> omega) | omega)) only [hq_eq, hq_ne, hq_set, hq_row, hq_drew, hq_drewN]) <;> (first | rfl | assumption))))) hN ⟨rfl, ?_, ?_⟩
  · exact ((((hP.setMany (st.many + 1) (by simp)).setPl (st.pl + n) (by simp)).alloc _).alloc _).setRow _ (by (first | assumption | omega | (simp only [sz_alloc, sz_set, sz_row, sz_drew, sz_drewN] <;> omega)))
  · exact (((((Upd.refl _ _).setCell _ _ fun _ => rfl).setCell _ _ fun _ => rfl).alloc _).alloc _).setRow _ _ fun h => absurd h (by (first | assumption | omega | (simp only [sz_alloc, sz_set, sz_row, sz_drew, sz_drewN] <;> omega)))
def rIs (s : ByteArray) (st : RSt) (t : List UInt8) : Bool := Lib.hasPrefix (s.data.toList.drop st.pl) t
theorem has_iff (l p : List UInt8) : Lib.hasPrefix l p = true ↔ p = l.take p.length := by
  show p.isPrefixOf l = true ↔ _
  rw [List.isPrefixOf_iff_prefix, List.prefix_iff_eq_take]
theorem is_eq (s t : ByteArray) (p : Nat) : ((s.extract p (p + t.size)).toList == t.toList) = Lib.hasPrefix (s.data.toList.drop p) t.data.toList := by
  rw [bytes_toList, bytes_toList, ByteArray.data_extract, Array.toList_extract, Bool.eq_iff_iff, beq_iff_eq, has_iff, List.extract_eq_take_drop, bytes_len t, Nat.add_sub_cancel_left]
  exact ⟨Eq.symm, Eq.symm⟩
theorem is_far {s t : ByteArray} {p : Nat} (h : ¬ p + t.size ≤ s.size) (hp : p ≤ s.size) : Lib.hasPrefix (s.data.toList.drop p) t.data.toList = false := by
  cases hc : Lib.hasPrefix (s.data.toList.drop p) t.data.toList with
  | false => rfl
  | true =>
    have := congrArg List.length ((has_iff _ _).1 hc)
    have h1 := bytes_len s
    have h2 := bytes_len t
    rw [List.length_take, List.length_drop] at this
    omega
set_option maxRecDepth 100000 in set_option maxHeartbeats 400000 in
theorem ris_any (w : World) (b : Nat) (s t : ByteArray) (st : RSt) (hP : RW w b s st) (hI : st.pl ≤ s.size) (hl : s.size ≤ 1000) (ht : t.size ≤ 10) :
    Calls Tryd.prog 20 #[.pointer (some ⟨b, 0, none⟩), .string t] w fun e w' => e = .returned (.bool (rIs s st t.data.toList)) ∧ w' = w.drew := by
  have hb := hP.lt
  have c0 := hP.c0
  have c1 := hP.c1
  have d0 : w.drew.cell? ⟨b, 0, none⟩ = some (.string s) := c0
  have d1 : w.drew.cell? ⟨b, 1, none⟩ = some (.int .i64 st.pl) := c1
  by_cases hlen : st.pl + t.size ≤ s.size
  · have hcmp : decide ((t.size : Int) ≤ (s.size : Int) - (st.pl : Int)) = true := decide_eq_true (by omega)
    go_enter Tryd.func20, Tryd.ntmps20
    go_wp2_with fail
    go_region
    go_wp2_with fail
    go_ret
    refine ⟨?_, rfl⟩
    show Ending.returned (.bool ((s.extract st.pl (st.pl + t.size)).toList == t.toList)) = _
    rw [is_eq]; rfl
  · have hcmp : decide ((t.size : Int) ≤ (s.size : Int) - (st.pl : Int)) = false := decide_eq_false (by omega)
    go_enter Tryd.func20, Tryd.ntmps20
    go_wp2_with fail
    go_region
    go_wp2_with fail
    go_ret
    refine ⟨?_, rfl⟩
    show Ending.returned (.bool false) = .returned (.bool (Lib.hasPrefix (s.data.toList.drop st.pl) t.data.toList))
    rw [is_far hlen hI]
end Go.Proofs.YtkbfckigndkkkaaDoor
