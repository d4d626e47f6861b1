/-
  Walks: the small methods of the parser of patterns (must, node, self, take).
-/
import Derived.Test.YtkbfckigndkkkaaDoorShelf
import Derived.Test.YtkbfckigndkkkaaDoorBs
namespace Go.Proofs.YtkbfckigndkkkaaDoor
set_option linter.unusedSimpArgs false
set_option linter.unusedVariables false
open Go Go.RowKit

@[go_sem ↓] theorem zeroNode (w : World) : (zeroValue 41).run Tryd.prog w = .ok (.agg (ndA 0 0 noS 0 0 0 (.slice none 0 0))) w := by kernel_rfl
theorem infoNode : (Tryd.prog.info? 41).map (·.size) = some 262 := by kernel_rfl
theorem infoNodeSome : ∃ i : TypeInfo, Tryd.prog.info? 41 = some i ∧ i.zero = some (.agg (ndA 0 0 noS 0 0 0 (.slice none 0 0))) ∧ i.size = 262 ∧ i.bytes = 320 :=
  info_parts (by kernel_rfl)

def nonePanic : List PanicEntry := [{ v := .iface 44 (.agg #[]), recovered := false }]

/-- The parser's fields in its block b. -/
def PW (w : World) (b : Nat) (s : ByteArray) (g m : Int) (r : Bool) (ov : Value) : Prop :=
  w.heap[b]? = some (.cells #[.string s, .slice none 0 0, .int .i64 g, .int .i64 m, .bool r, ov] 50 (0, 0))
def atB (b : Nat) : Nat → Option Obj → Prop := fun k _ => k = b
section
variable {w w' : World} {b : Nat} {s : ByteArray} {g m : Int} {r : Bool} {ov : Value}
theorem PW.lt (h : PW w b s g m r ov) : b < w.heap.size := lt_of_heap h
theorem PW.cells (h : PW w b s g m r ov) : w.cell? ⟨b, 0, none⟩ = some (.string s) ∧ w.cell? ⟨b, 2, none⟩ = some (.int .i64 g) ∧ w.cell? ⟨b, 3, none⟩ = some (.int .i64 m) ∧
    w.cell? ⟨b, 4, none⟩ = some (.bool r) ∧ w.cell? ⟨b, 5, none⟩ = some ov := by
  refine ⟨?_, ?_, ?_, ?_, ?_⟩ <;> rw [cell_of_heap h] <;> rfl
theorem PW.free (h : PW w b s g m r ov) : w.frozen? ⟨b, 0, none⟩ = false ∧ w.frozen? ⟨b, 1, none⟩ = false ∧ w.frozen? ⟨b, 2, none⟩ = false ∧ w.frozen? ⟨b, 3, none⟩ = false ∧ w.frozen? ⟨b, 4, none⟩ = false ∧ w.frozen? ⟨b, 5, none⟩ = false :=
  ⟨free_of_heap h _, free_of_heap h _, free_of_heap h _, free_of_heap h _, free_of_heap h _, free_of_heap h _⟩
theorem PW.setLeft (h : PW w b s g m r ov) (s' : ByteArray) : PW (w.setCell ⟨b, 0, none⟩ (.string s')) b s' g m r ov := heap_setCell_at h 0 _
theorem PW.setG (h : PW w b s g m r ov) (g' : Int) : PW (w.setCell ⟨b, 2, none⟩ (.int .i64 g')) b s g' m r ov := heap_setCell_at h 2 _
theorem PW.setM (h : PW w b s g m r ov) (m' : Int) : PW (w.setCell ⟨b, 3, none⟩ (.int .i64 m')) b s g m' r ov := heap_setCell_at h 3 _
theorem PW.setR (h : PW w b s g m r ov) (r' : Bool) : PW (w.setCell ⟨b, 4, none⟩ (.bool r')) b s g m r' ov := heap_setCell_at h 4 _
theorem PW.setO (h : PW w b s g m r ov) (v : Value) : PW (w.setCell ⟨b, 5, none⟩ v) b s g m r v := heap_setCell_at h 5 _
theorem PW.alloc (h : PW w b s g m r ov) (o : Obj) : PW (w.alloc o) b s g m r ov := (heap_alloc_lt h.lt).trans h
theorem PW.drew (h : PW w b s g m r ov) : PW w.drew b s g m r ov := h
theorem PW.drewN (h : PW w b s g m r ov) (n : Nat) : PW (w.drewN n) b s g m r ov := h
theorem PW.below (h : PW w b s g m r ov) (hb : Below w.heap.size w w') : PW w' b s g m r ov := (hb.block b h.lt).trans h
theorem PW.setRow (h : PW w b s g m r ov) {k : Nat} (cs : Array Value) (hk : b ≠ k) : PW (w.setRow k cs) b s g m r ov := (hq_row hk).trans h
theorem PW.setOther (h : PW w b s g m r ov) {p : Addr} (v : Value) (hp : p.block ≠ b) : PW (w.setCell p v) b s g m r ov := (Below.heap_setCell w p v b (Ne.symm hp)).trans h
end

theorem must_true (w : World) : Calls Tryd.prog 14 #[.bool true] w fun e w' => e = .returned (.tuple #[]) ∧ w' = w := by
  go_enter Tryd.func14, Tryd.ntmps14
  go_wp2
  go_end0
  exact ⟨rfl, rfl⟩
theorem must_false (w : World) : Calls Tryd.prog 14 #[.bool false] w fun e w' => e = .panicked nonePanic ∧ w' = w := by
  go_enter Tryd.func14, Tryd.ntmps14
  go_wp2
  exact ⟨rfl, rfl, rfl⟩

section
variable {ops : Array Oper} {rest : List Oper} {dst : Option Tmp} {ty : TypeId} {pos : String} {after : Array Edge} {a : Act} {w : World} {Q : Exit → Act → World → Prop}
theorem ldNode {x : Operand} {g : Nat} {cs : Array Value} {t : TypeId} {fr : Nat × Nat} (hx : a.eval x = .pointer (some ⟨g, 0, none⟩)) (hg : w.heap[g]? = some (.cells cs t fr)) (hn : cs.size = 262)
    (h : wpList Tryd.prog ops Q rest (a.put dst (.agg cs)) w) : wpList Tryd.prog ops Q (⟨dst, .load 41 x, ty, pos, after, none⟩ :: rest) a w :=
  ldRow Tryd.underlying41 rfl infoNode hx hg hn h
theorem stNode {x y : Operand} {g : Nat} {cs old : Array Value} {t : TypeId} (hx : a.eval x = .pointer (some ⟨g, 0, none⟩)) (hy : a.eval y = .agg cs) (hg : w.heap[g]? = some (.cells old t (0, 0)))
    (ho : old.size = 262) (hn : cs.size = 262) (h1 : cs.all (·.oneCell') = true)
    (h : wpList Tryd.prog ops Q rest a (w.setRow g cs)) : wpList Tryd.prog ops Q (⟨none, .store 41 x y, ty, pos, after, none⟩ :: rest) a w :=
  stRow infoNode hx hy hg ho hn h1 h
theorem bsNode {x : Operand} {N : Array Value} (hx : a.eval x = .agg N) (hN : N.size = 262)
    (h : wpList Tryd.prog ops Q rest (a.put dst (.slice (some ⟨w.heap.size, 0, none⟩) 1 1)) (w.alloc (.cells N 41))) : wpList Tryd.prog ops Q (⟨dst, .buildSlice 29 1 #[(0, x)], ty, pos, after, none⟩ :: rest) a w :=
  bsRow Tryd.underlying29 zeroNode (fun _ => Tryd.sizeOf41 _) (by decide) (by decide) hx hN h
theorem retNode {fn : Func} {R : Ending → World → Prop} {p : Tmp} {g : Nat} {cs : Array Value} {t : TypeId} {fr : Nat × Nat} (hf : fn.results = #[.cell p 41]) (hd : a.defers = [])
    (hp : a.tmps.getD p undef = .pointer (some ⟨g, 0, none⟩)) (hg : w.heap[g]? = some (.cells cs t fr)) (hn : cs.size = 262) (hR : R (.returned (.agg cs)) w) : bodyPost Tryd.prog fn R .ret a w :=
  bodyPost_ret (results_cell_row hf a.tmps w g t cs fr _ hp hg Tryd.underlying41 rfl (by rw [infoNode, hn])) hd hR
end

/-! ## The parser's state -/
/-- What a parser's method may turn: the parser's own block, and rows of numbers made behind it. -/
def SP (b : Nat) : Nat → Option Obj → Prop := fun k o => k = b ∨ (b < k ∧ ∃ cs fr, o = some (.cells cs 3 fr))
def OpenAt (w : World) (b : Nat) (ov : Value) (zs : List Int) : Prop := w.ownsRow (b + 1) 3 1 ov zs.length (zs.map (Value.int .i64))
theorem OpenAt.keep {w w' : World} {b : Nat} {ov : Value} {zs : List Int} (h : OpenAt w b ov zs) (hk : Keep (fun g => b < g) 3 w w') : OpenAt w' b ov zs :=
  ownsRow_keep h (hk.mono fun k hk _ => by have := hk.1; omega)
def StW (w : World) (b : Nat) (st : PSt) : Prop := ∃ s ov, s.data.toList = st.left ∧ PW w b s st.g st.m st.r ov ∧ OpenAt w b ov st.opn
/-- What a method that hands back a node leaves: the node (its kids in blocks of D or new ones) and the state; or the panic. -/
def OutN (b : Nat) (D : Nat → Prop) (w : World) : Option ((Hd × Fo) × PSt) → Ending → World → Prop
  | none, e, w' => e = .panicked nonePanic ∧ Upd (SP b) w w'
  | some ((h, k), st'), e, w' => ∃ kv, e = .returned (.agg (ndH h kv)) ∧ Rep (fun j => D j ∨ w.heap.size ≤ j) 41 w' kv k ∧ StW w' b st' ∧ Upd (SP b) w w'
theorem Upd.sp {w w' : World} {b : Nat} (h : Upd (atB b) w w') : Upd (SP b) w w' := h.mono fun _ _ _ hk => .inl hk
theorem keepInt_atB {w w' : World} {b : Nat} (h : Upd (atB b) w w') : Keep (fun g => b < g) 3 w w' := Keep.ofUpd h fun k _ _ hk _ hs => by simp only [atB] at hs; omega
theorem keepNode_sp {w w' : World} {b : Nat} {D : Nat → Prop} {s : ByteArray} {g m : Int} {r : Bool} {ov : Value} (hP : PW w b s g m r ov) (h : Upd (SP b) w w') : Keep D 41 w w' :=
  Keep.ofUpd h fun k cs fr _ hk hs => by
    rcases hs with rfl | ⟨_, cs', fr', hs⟩
    · rw [hP] at hk; cases hk
    · cases hs

set_option maxRecDepth 100000 in set_option maxHeartbeats 400000 in
theorem node_some (w : World) (b : Nat) (s : ByteArray) (g m : Int) (r : Bool) (ov : Value) (N : Array Value) (hP : PW w b s g m r ov) (h0 : 0 ≤ m) (hm : m + 1 ≤ 200) (hN : N.size = 262) (hN1 : N.all (·.oneCell') = true) :
    Calls Tryd.prog 27 #[.pointer (some ⟨b, 0, none⟩), .agg N] w fun e w' => e = .returned (.agg N) ∧ PW w' b s g (m + 1) r ov ∧ Upd (atB b) w w' := by
  have hb := hP.lt
  obtain ⟨-, -, c3, -, -⟩ := hP.cells
  obtain ⟨-, -, -, f3, -, -⟩ := hP.free
  have hd : decide (m + 1 ≤ 200) = true := by simpa using hm
  go_enter Tryd.func27, Tryd.ntmps27
  go_wp2_with (first
    | (go_at_call 14; refine (must_true _).mono ?_; rintro e w' ⟨rfl, rfl⟩)
    | ((with_reducible apply ldNode); (focus rfl); (focus ((try simp (disch := (first | (simp only [sz_alloc, sz_set, sz_row, sz_drew, sz_drewN] <;> omega) | omega)) only [hq_eq, hq_ne, hq_set, hq_row, hq_drew, hq_drewN]) <;> (first | rfl | assumption))); (focus (first | assumption | exact ndA_size _ _ _ _ _ _ _)))
    | ((with_reducible apply stNode); (focus rfl); (focus rfl); (focus ((try simp (disch := (first | (simp only [sz_alloc, sz_set, sz_row, sz_drew, sz_drewN] <;> omega) | omega)) only [hq_eq, hq_ne, hq_set, hq_row, hq_drew, hq_drewN]) <;> (first | rfl | assumption))); (focus (first | assumption | exact ndA_size _ _ _ _ _ _ _)); (focus (first | assumption | exact ndA_size _ _ _ _ _ _ _)); (focus (first | assumption | exact ndA_one _ _ _ _ _ _ _ rfl))))
  refine retNode rfl rfl rfl (setRow_heap _ _ _ _ _ _ (by (focus ((try simp (disch := (first | (simp only [sz_alloc, sz_set, sz_row, sz_drew, sz_drewN] <;> omega) | omega)) only [hq_eq, hq_ne, hq_set, hq_row, hq_drew, hq_drewN]) <;> (first | rfl | assumption))))) hN ⟨rfl, ?_, ?_⟩
  · exact (((hP.setM _).alloc _).alloc _).setRow _ (by (first | assumption | omega | (simp only [sz_alloc, sz_set, sz_row, sz_drew, sz_drewN] <;> omega)))
  · exact ((((Upd.refl _ _).setCell _ _ fun _ => rfl).alloc _).alloc _).setRow _ _ fun h => absurd h (by (first | assumption | omega | (simp only [sz_alloc, sz_set, sz_row, sz_drew, sz_drewN] <;> omega)))
set_option maxRecDepth 100000 in set_option maxHeartbeats 400000 in
theorem node_none (w : World) (b : Nat) (s : ByteArray) (g m : Int) (r : Bool) (ov : Value) (N : Array Value) (hP : PW w b s g m r ov) (h0 : 0 ≤ m) (hm2 : m ≤ 200) (hm : ¬ m + 1 ≤ 200) :
    Calls Tryd.prog 27 #[.pointer (some ⟨b, 0, none⟩), .agg N] w fun e w' => e = .panicked nonePanic ∧ Upd (atB b) w w' := by
  have hb := hP.lt
  obtain ⟨-, -, c3, -, -⟩ := hP.cells
  obtain ⟨-, -, -, f3, -, -⟩ := hP.free
  have hd : decide (m + 1 ≤ 200) = false := by simpa using hm
  go_enter Tryd.func27, Tryd.ntmps27
  go_wp2_with (first
    | (go_at_call 14; refine (must_false _).mono ?_; rintro e w' ⟨rfl, rfl⟩))
  refine ⟨rfl, rfl, ?_⟩
  exact (((Upd.refl _ _).setCell _ _ fun _ => rfl).alloc _).alloc _

/-! ## Bytes of strings -/
theorem bytes_toList (s : ByteArray) : s.toList = s.data.toList := Lib.toList_data s
theorem bytes_extract (s : ByteArray) (i : Nat) : (s.extract i s.size).data.toList = s.data.toList.drop i := by
  rw [Lib.extract_data]
  exact List.take_of_length_le (by rw [List.length_drop, ← Lib.size_eq]; omega)
theorem bytes_len (s : ByteArray) : s.size = s.data.toList.length := Lib.size_eq s

set_option maxRecDepth 100000 in set_option maxHeartbeats 400000 in
theorem self_some (w : World) (b : Nat) (s : ByteArray) (g m : Int) (r : Bool) (ov : Value) (c : UInt8) (t : List UInt8) (hP : PW w b s g m r ov) (hs : s.data.toList = c :: t) (h0 : 0 ≤ m) (hm : m + 1 ≤ 200) :
    Calls Tryd.prog 28 #[.pointer (some ⟨b, 0, none⟩)] w fun e w' => e = .returned (.agg (ndA 1 c noS 0 0 0 (.slice none 0 0))) ∧
      (∃ s', s'.data.toList = t ∧ PW w' b s' g (m + 1) r ov) ∧ Upd (atB b) w w' := by
  have hb := hP.lt
  obtain ⟨c0, -, -, -, -⟩ := hP.cells
  obtain ⟨f0, -, -, -, -⟩ := hP.free
  have hlen : s.size = t.length + 1 := by rw [bytes_len, hs]; rfl
  have hpos : 0 < s.size := by omega
  have HC : Hid (s[0] = c) := by
    show s.data[0] = c
    have h1 : s.data.toList[0]? = some c := by rw [hs]; rfl
    rw [Array.getElem?_toList, Array.getElem?_eq_getElem (by exact hpos)] at h1
    exact Option.some.inj h1
  have HS := Lib.hid hs
  have HL := Lib.hid hlen
  clear hs hlen
  go_enter Tryd.func28, Tryd.ntmps28
  go_wp2_with fail
  refine (node_some _ b (s.extract 1 s.size) g m r ov _ ((hP.setLeft _).alloc _) h0 hm (ndA_size _ _ _ _ _ _ _) (ndA_one _ _ _ _ _ _ _ rfl)).mono ?_
  rintro e w1 ⟨rfl, hP1, hU⟩
  have hZ : w1.heap[w.heap.size]? = some (.cells (ndA 0 0 noS 0 0 0 (.slice none 0 0)) 41 (0, 0)) := by
    rw [hU.block _ (by rw [sz_alloc, sz_set]; omega) (by simp only [atB]; omega)]; exact (by (focus ((try simp (disch := (first | (simp only [sz_alloc, sz_set, sz_row, sz_drew, sz_drewN] <;> omega) | omega)) only [hq_eq, hq_ne, hq_set, hq_row, hq_drew, hq_drewN]) <;> (first | rfl | assumption))))
  go_wp2_with ((with_reducible apply stNode); (focus rfl); (focus rfl); (focus ((try simp (disch := (first | (simp only [sz_alloc, sz_set, sz_row, sz_drew, sz_drewN] <;> omega) | omega)) only [hq_eq, hq_ne, hq_set, hq_row, hq_drew, hq_drewN]) <;> (first | rfl | assumption))); (focus (first | assumption | exact ndA_size _ _ _ _ _ _ _)); (focus (first | assumption | exact ndA_size _ _ _ _ _ _ _)); (focus (first | assumption | exact ndA_one _ _ _ _ _ _ _ rfl)))
  have hne : b ≠ w.heap.size := by omega
  refine retNode rfl rfl rfl (setRow_heap _ _ _ _ _ _ hZ) (ndA_size _ _ _ _ _ _ _) ⟨by rw [HC.out], ⟨_, ?_, hP1.setRow _ hne⟩, ?_⟩
  · rw [bytes_extract, HS.out]; rfl
  · exact ((((Upd.refl _ _).setCell _ _ fun _ => rfl).alloc _).trans hU).setRow _ _ fun h => absurd h (by omega)

theorem node_yes (w : World) (b : Nat) (st : PSt) (N : Array Value) (hS : StW w b st) (h0 : 0 ≤ st.m) (hm : st.m + 1 ≤ 200) (hN : N.size = 262) (hN1 : N.all (·.oneCell') = true) :
    Calls Tryd.prog 27 #[.pointer (some ⟨b, 0, none⟩), .agg N] w fun e w' => e = .returned (.agg N) ∧ StW w' b { st with m := st.m + 1 } ∧ Upd (atB b) w w' := by
  obtain ⟨s, ov, hs, hP, hO⟩ := hS
  refine (node_some w b s st.g st.m st.r ov _ hP h0 hm hN hN1).mono ?_
  rintro e w' ⟨rfl, hP', hU⟩
  exact ⟨rfl, ⟨s, ov, hs, hP', hO.keep (keepInt_atB hU)⟩, hU⟩
theorem node_no (w : World) (b : Nat) (st : PSt) (N : Array Value) (hS : StW w b st) (h0 : 0 ≤ st.m) (h1 : st.m ≤ 200) (hm : ¬ st.m + 1 ≤ 200) :
    Calls Tryd.prog 27 #[.pointer (some ⟨b, 0, none⟩), .agg N] w fun e w' => e = .panicked nonePanic ∧ Upd (atB b) w w' := by
  obtain ⟨s, ov, hs, hP, hO⟩ := hS
  exact node_none w b s st.g st.m st.r ov _ hP h0 h1 hm
theorem node_any (w : World) (b : Nat) (st : PSt) (h : Hd) (kv : Value) (k : Fo) (D : Nat → Prop) (hS : StW w b st) (h0 : 0 ≤ st.m) (h1 : st.m ≤ 200) (hR : Rep D 41 w kv k) :
    Calls Tryd.prog 27 #[.pointer (some ⟨b, 0, none⟩), .agg (ndH h kv)] w (OutN b D w (mkS st h k)) := by
  obtain ⟨s, ov, hs, hP, hO⟩ := hS
  by_cases hm : st.m + 1 ≤ 200
  · have e1 : mkS st h k = some ((h, k), { st with m := st.m + 1 }) := by simp [mkS, nodeS, hm]
    rw [e1]
    refine (node_some w b s st.g st.m st.r ov _ hP h0 hm (ndA_size _ _ _ _ _ _ _) (ndA_one _ _ _ _ _ _ _ hR.one)).mono ?_
    rintro e w' ⟨rfl, hP', hU⟩
    exact ⟨kv, rfl, (hR.keep (keepNode_sp hP hU.sp)).mono fun _ hk _ => .inl hk, ⟨s, ov, hs, hP', hO.keep (keepInt_atB hU)⟩, hU.sp⟩
  · have e1 : mkS st h k = none := by simp [mkS, nodeS, hm]
    rw [e1]
    refine (node_none w b s st.g st.m st.r ov _ hP h0 h1 hm).mono ?_
    rintro e w' ⟨rfl, hU⟩
    exact ⟨rfl, hU.sp⟩

set_option maxRecDepth 100000 in set_option maxHeartbeats 400000 in
theorem self_none (w : World) (b : Nat) (s : ByteArray) (g m : Int) (r : Bool) (ov : Value) (hP : PW w b s g m r ov) (hs : s.data.toList ≠ []) (h0 : 0 ≤ m) (hm2 : m ≤ 200) (hm : ¬ m + 1 ≤ 200) :
    Calls Tryd.prog 28 #[.pointer (some ⟨b, 0, none⟩)] w fun e w' => e = .panicked nonePanic ∧ Upd (atB b) w w' := by
  have hb := hP.lt
  obtain ⟨c0, -, -, -, -⟩ := hP.cells
  obtain ⟨f0, -, -, -, -⟩ := hP.free
  have hpos : 0 < s.size := by rw [bytes_len]; exact List.length_pos_iff.2 hs
  go_enter Tryd.func28, Tryd.ntmps28
  go_wp2_with fail
  refine (node_none _ b (s.extract 1 s.size) g m r ov _ ((hP.setLeft _).alloc _) h0 hm2 (by omega)).mono ?_
  rintro e w1 ⟨rfl, hU⟩
  go_wp2_with fail
  exact ⟨rfl, rfl, (((Upd.refl _ _).setCell _ _ fun _ => rfl).alloc _).trans hU⟩

theorem self_any (w : World) (b : Nat) (st : PSt) (c : UInt8) (t : List UInt8) (D : Nat → Prop) (hS : StW w b st) (hl : st.left = c :: t) (h0 : 0 ≤ st.m) (h1 : st.m ≤ 200) :
    Calls Tryd.prog 28 #[.pointer (some ⟨b, 0, none⟩)] w (OutN b D w (mkS { st with left := t } ⟨1, c, noS, 0, 0, 0⟩ .nil)) := by
  obtain ⟨s, ov, hs, hP, hO⟩ := hS
  by_cases hm : st.m + 1 ≤ 200
  · have e1 : mkS { st with left := t } ⟨1, c, noS, 0, 0, 0⟩ .nil = some ((⟨1, c, noS, 0, 0, 0⟩, .nil), { st with left := t, m := st.m + 1 }) := by simp [mkS, nodeS, hm]
    rw [e1]
    refine (self_some w b s st.g st.m st.r ov c t hP (hs.trans hl) h0 hm).mono ?_
    rintro e w' ⟨rfl, ⟨s', hs', hP'⟩, hU⟩
    exact ⟨_, rfl, Rep.nilSlice _ _ _, ⟨s', ov, hs', hP', hO.keep (keepInt_atB hU)⟩, hU.sp⟩
  · have e1 : mkS { st with left := t } ⟨1, c, noS, 0, 0, 0⟩ .nil = none := by simp [mkS, nodeS, hm]
    rw [e1]
    refine (self_none w b s st.g st.m st.r ov hP (by rw [hs, hl]; simp) h0 h1 hm).mono ?_
    rintro e w' ⟨rfl, hU⟩
    exact ⟨rfl, hU.sp⟩

set_option maxRecDepth 100000 in set_option maxHeartbeats 400000 in
theorem take_any (w : World) (b : Nat) (s p : ByteArray) (g m : Int) (r : Bool) (ov : Value) (hP : PW w b s g m r ov) :
    Calls Tryd.prog 29 #[.pointer (some ⟨b, 0, none⟩), .string p] w fun e w' => e = .returned (.bool (Lib.hasPrefix s.data.toList p.data.toList)) ∧
      (∃ s', s'.data.toList = Lib.trimPrefix s.data.toList p.data.toList ∧ PW w' b s' g m r ov) ∧ Upd (atB b) w w' := by
  have hb := hP.lt
  obtain ⟨c0, -, -, -, -⟩ := hP.cells
  obtain ⟨f0, -, -, -, -⟩ := hP.free
  go_enter Tryd.func29, Tryd.ntmps29
  go_wp2_with fail
  refine (Tryd.strings_CutPrefix s p _).mono ?_
  rintro e w1 ⟨rfl, rfl⟩
  go_wp2_with fail
  go_ret
  exact ⟨rfl, ⟨_, rfl, hP.setLeft _⟩, (Upd.refl _ _).setCell _ _ fun _ => rfl⟩
end Go.Proofs.YtkbfckigndkkkaaDoor
