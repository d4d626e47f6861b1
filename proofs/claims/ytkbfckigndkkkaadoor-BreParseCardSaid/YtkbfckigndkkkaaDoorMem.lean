/-
  Memory: what a step may turn ('Upd'), rows of structs in memory, and trees of pattern nodes as values.
-/
import Derived.WalkKit
import Derived.WalkSpells
import Derived.WalkLawsBesides
import Derived.Lib.Hide
namespace Go.Proofs.YtkbfckigndkkkaaDoor
set_option linter.unusedSimpArgs false
set_option linter.unusedVariables false
open Go Go.RowKit

/-! ## What a step may turn -/
/-- Nothing that was there has turned but blocks that 'S' names (by their number and by what they held). -/
structure Upd (S : Nat → Option Obj → Prop) (w w' : World) : Prop where
  os : w'.os = w.os
  tape : w'.tape = w.tape
  output : w'.output = w.output
  size : w.heap.size ≤ w'.heap.size
  block : ∀ k, k < w.heap.size → ¬ S k w.heap[k]? → w'.heap[k]? = w.heap[k]?
section
variable {S T : Nat → Option Obj → Prop} {w w1 w2 : World}
theorem Upd.refl (S : Nat → Option Obj → Prop) (w : World) : Upd S w w := ⟨rfl, rfl, rfl, Nat.le_refl _, fun _ _ _ => rfl⟩
theorem Upd.trans (h : Upd S w w1) (g : Upd S w1 w2) : Upd S w w2 :=
  ⟨g.os.trans h.os, g.tape.trans h.tape, g.output.trans h.output, Nat.le_trans h.size g.size, fun k hk hS => by
    have h1 := h.block k hk hS
    rw [g.block k (Nat.lt_of_lt_of_le hk h.size) (by rw [h1]; exact hS), h1]⟩
theorem Upd.mono (h : Upd S w w1) (hS : ∀ k o, k < w.heap.size → S k o → T k o) : Upd T w w1 :=
  ⟨h.os, h.tape, h.output, h.size, fun k hk hT => h.block k hk fun hs => hT (hS _ _ hk hs)⟩
/-- A second step under another law. -/
theorem Upd.andThen (h : Upd S w w1) (g : Upd T w1 w2) (hT : ∀ k, k < w.heap.size → T k w1.heap[k]? → S k w.heap[k]?) : Upd S w w2 :=
  ⟨g.os.trans h.os, g.tape.trans h.tape, g.output.trans h.output, Nat.le_trans h.size g.size, fun k hk hS => by
    rw [g.block k (Nat.lt_of_lt_of_le hk h.size) (fun ht => hS (hT k hk ht)), h.block k hk hS]⟩
theorem Upd.below (h : Upd S w w1) {B : Nat} (hB : B ≤ w.heap.size) (hS : ∀ k o, k < B → ¬ S k o) : Below B w w1 :=
  ⟨h.os, h.tape, h.output, h.size, fun k hk => h.block k (by omega) (hS _ _ hk)⟩
theorem Upd.ofBelow (S : Nat → Option Obj → Prop) (h : Below w.heap.size w w1) : Upd S w w1 :=
  ⟨h.os, h.tape, h.output, h.size, fun k hk _ => h.block k hk⟩
theorem Upd.thenBelow (h : Upd S w w1) {B : Nat} (g : Below B w1 w2) (hB : w.heap.size ≤ B) : Upd S w w2 :=
  ⟨g.os.trans h.os, g.tape.trans h.tape, g.output.trans h.output, Nat.le_trans h.size g.size, fun k hk hS => by
    rw [g.block k (by omega), h.block k hk hS]⟩
theorem Upd.alloc (h : Upd S w w1) (o : Obj) : Upd S w (w1.alloc o) :=
  h.thenBelow ((Below.refl w1.heap.size w1).alloc (Nat.le_refl _) o) h.size
theorem Upd.drew (h : Upd S w w1) : Upd S w w1.drew := ⟨h.os, h.tape, h.output, h.size, h.block⟩
theorem Upd.drewN (h : Upd S w w1) (n : Nat) : Upd S w (w1.drewN n) := ⟨h.os, h.tape, h.output, h.size, h.block⟩
theorem Upd.setCell (h : Upd S w w1) (p : Addr) (v : Value) (hp : p.block < w.heap.size → S p.block w.heap[p.block]?) : Upd S w (w1.setCell p v) :=
  ⟨h.os, h.tape, h.output, by simp only [World.setCell, Array.size_modify]; exact h.size, fun k hk hS => by
    rw [Below.heap_setCell _ _ _ _ (fun e => hS (by subst e; exact hp hk)), h.block k hk hS]⟩
theorem Upd.grown (h : Upd S w w1) {row : Option Nat} (hg : w1.grownBy w2 row) (hr : ∀ k, row = some k → k < w.heap.size → S k w.heap[k]?) : Upd S w w2 :=
  ⟨hg.os.trans h.os, hg.tape.trans h.tape, hg.output.trans h.output, Nat.le_trans h.size hg.size, fun k hk hS => by
    rw [hg.block k (Nat.lt_of_lt_of_le hk h.size) (fun e => hS (hr k e.symm hk)), h.block k hk hS]⟩
end

/-! ## Blocks of a world -/
theorem heap_alloc_lt {w : World} {o : Obj} {k : Nat} (h : k < w.heap.size) : (w.alloc o).heap[k]? = w.heap[k]? := Below.heap_alloc w o k h
theorem lt_of_heap {w : World} {b : Nat} {o : Obj} (h : w.heap[b]? = some o) : b < w.heap.size := by
  rcases Nat.lt_or_ge b w.heap.size with h' | h'
  · exact h'
  · rw [Array.getElem?_eq_none h'] at h; cases h
theorem lt_of_cell {w : World} {b o : Nat} {v : Value} (h : w.cell? ⟨b, o, none⟩ = some v) : b < w.heap.size := by
  rcases Nat.lt_or_ge b w.heap.size with h' | h'
  · exact h'
  · simp [World.cell?, Array.getElem?_eq_none h'] at h
theorem cell_of_heap {w : World} {b : Nat} {cs : Array Value} {e : TypeId} {fr : Nat × Nat} (h : w.heap[b]? = some (.cells cs e fr)) (i : Nat) :
    w.cell? ⟨b, i, none⟩ = cs[i]? := by simp [World.cell?, h]
theorem free_of_heap {w : World} {b : Nat} {cs : Array Value} {e : TypeId} (h : w.heap[b]? = some (.cells cs e (0, 0))) (i : Nat) :
    w.frozen? ⟨b, i, none⟩ = false := by simp [World.frozen?, h]
theorem heap_setCell_at {w : World} {b : Nat} {cs : Array Value} {e : TypeId} {fr : Nat × Nat} (h : w.heap[b]? = some (.cells cs e fr)) (i : Nat) (v : Value) :
    (w.setCell ⟨b, i, none⟩ v).heap[b]? = some (.cells (cs.setIfInBounds i v) e fr) := by
  simp [World.setCell, Array.getElem?_modify, h]

theorem hq_eq {w : World} {o : Obj} {k : Nat} (h : k = w.heap.size) : (w.alloc o).heap[k]? = some o := by subst h; exact heap_alloc_new w o
theorem hq_ne {w : World} {o : Obj} {k : Nat} (h : k ≠ w.heap.size) : (w.alloc o).heap[k]? = w.heap[k]? := by
  show (w.heap.push o)[k]? = _
  rw [Array.getElem?_push, if_neg h]
theorem hq_set {w : World} {p : Addr} {v : Value} {k : Nat} (h : k ≠ p.block) : (w.setCell p v).heap[k]? = w.heap[k]? := Below.heap_setCell w p v k h
theorem hq_row {w : World} {g k : Nat} {cs : Array Value} (h : k ≠ g) : (w.setRow g cs).heap[k]? = w.heap[k]? := setRow_other w g k cs h
theorem sz_alloc (w : World) (o : Obj) : (w.alloc o).heap.size = w.heap.size + 1 := World.size_alloc w o
theorem sz_set (w : World) (p : Addr) (v : Value) : (w.setCell p v).heap.size = w.heap.size := by simp [World.setCell]
theorem sz_row (w : World) (g : Nat) (cs : Array Value) : (w.setRow g cs).heap.size = w.heap.size := setRow_size w g cs
theorem sz_drew (w : World) : w.drew.heap.size = w.heap.size := rfl
theorem sz_drewN (w : World) (n : Nat) : (w.drewN n).heap.size = w.heap.size := rfl
theorem hq_drew (w : World) (k : Nat) : w.drew.heap[k]? = w.heap[k]? := rfl
theorem hq_drewN (w : World) (n k : Nat) : (w.drewN n).heap[k]? = w.heap[k]? := rfl
theorem Upd.setRow {S : Nat → Option Obj → Prop} {w w1 : World} (h : Upd S w w1) (g : Nat) (cs : Array Value) (hp : g < w.heap.size → S g w.heap[g]?) : Upd S w (w1.setRow g cs) :=
  ⟨h.os, h.tape, h.output, by rw [sz_row]; exact h.size, fun k hk hS => by
    rw [hq_row (fun e => hS (by subst e; exact hp hk)), h.block k hk hS]⟩

/-! ## Steps on whole rows of cells -/
section
variable {P : Program} {ops : Array Oper} {rest : List Oper} {dst : Option Tmp} {ty : TypeId} {pos : String} {after : Array Edge} {a : Act} {w : World} {Q : Exit → Act → World → Prop}
theorem ldRow {e : TypeId} {d : TypeDesc} {n : Nat} (hu : P.underlying e = some d) (hd : (match d with | .struct _ | .array _ _ => true | _ => false) = true) (hi : (P.info? e).map (·.size) = some n)
    {x : Operand} {g : Nat} {cs : Array Value} {t : TypeId} {fr : Nat × Nat} (hx : a.eval x = .pointer (some ⟨g, 0, none⟩)) (hg : w.heap[g]? = some (.cells cs t fr)) (hn : cs.size = n)
    (h : wpList P ops Q rest (a.put dst (.agg cs)) w) : wpList P ops Q (⟨dst, .load e x, ty, pos, after, none⟩ :: rest) a w :=
  wpList_load_row rfl e x rfl g hx t cs fr d hg hu hd (by rw [hi, hn]) h
theorem stRow {e : TypeId} {n : Nat} (hi : (P.info? e).map (·.size) = some n)
    {x y : Operand} {g : Nat} {cs old : Array Value} {t : TypeId} (hx : a.eval x = .pointer (some ⟨g, 0, none⟩)) (hy : a.eval y = .agg cs) (hg : w.heap[g]? = some (.cells old t (0, 0)))
    (ho : old.size = n) (hn : cs.size = n) (h1 : cs.all (·.oneCell') = true)
    (h : wpList P ops Q rest a (w.setRow g cs)) : wpList P ops Q (⟨none, .store e x y, ty, pos, after, none⟩ :: rest) a w :=
  wpList_store_row rfl e x y rfl g cs hx hy t old hg (by rw [hi, hn]) (by rw [ho, hn]) h1 h
end

theorem tup2 {x y x' y' : Value} (h1 : x = x') (h2 : y = y') : Ending.returned (.tuple #[x, y]) = .returned (.tuple #[x', y']) := by rw [h1, h2]
theorem tup3 {x y z x' y' z' : Value} (h1 : x = x') (h2 : y = y') (h3 : z = z') : Ending.returned (.tuple #[x, y, z]) = .returned (.tuple #[x', y', z']) := by rw [h1, h2, h3]
theorem ret1 {x x' : Value} (h1 : x = x') : Ending.returned x = .returned x' := by rw [h1]
/-! ## A new slice of one element that has many cells -/
theorem fold_set (f : Nat → Nat) (hf : ∀ j, f j = j) : ∀ (xs : List Value) (k : Nat) (cs : Array Value) (i : Nat), k + xs.length ≤ cs.size →
    ((xs.zipIdx k).foldl (fun (cs : Array Value) (x : Value × Nat) => cs.setIfInBounds (f x.2) x.1) cs)[i]? = if k ≤ i ∧ i < k + xs.length then xs[i - k]? else cs[i]?
  | [], k, cs, i, _ => by simp; omega
  | x :: xs, k, cs, i, h => by
    simp only [List.zipIdx_cons, List.foldl_cons, hf]
    have ih := fold_set f hf xs (k + 1) (cs.setIfInBounds k x) i (by simp only [Array.size_setIfInBounds, List.length_cons] at h ⊢; omega)
    simp only [hf] at ih
    rw [ih]
    simp only [List.length_cons] at h ⊢
    by_cases hk : i = k
    · subst hk
      rw [if_neg (by omega), if_pos (by omega), Array.getElem?_setIfInBounds_self_of_lt (by omega)]
      simp
    · rw [Array.getElem?_setIfInBounds_ne (Ne.symm hk)]
      by_cases h2 : k ≤ i ∧ i < k + (xs.length + 1)
      · rw [if_pos (by omega), if_pos h2]
        obtain ⟨d, rfl⟩ : ∃ d, i = k + 1 + d := ⟨i - (k + 1), by omega⟩
        rw [show k + 1 + d - (k + 1) = d by omega, show k + 1 + d - k = d + 1 by omega]
        rfl
      · rw [if_neg (by omega), if_neg h2]
theorem fold_all (N cs : Array Value) (h : N.size = cs.size) : N.zipIdx.foldl (fun (cs : Array Value) (x : Value × Nat) => cs.setIfInBounds (0 * N.size + x.2) x.1) cs = N := by
  apply Array.ext_getElem?
  intro i
  rw [← Array.foldl_toList, Array.toList_zipIdx]
  rw [fold_set (fun j => 0 * N.size + j) (fun j => by omega) N.toList 0 cs i (by simp; omega)]
  simp only [Array.length_toList, Nat.zero_add, Nat.zero_le, true_and, Nat.sub_zero, Array.getElem?_toList]
  by_cases hi : i < N.size
  · rw [if_pos hi]
  · rw [if_neg hi, Array.getElem?_eq_none (by omega), Array.getElem?_eq_none (by omega)]
theorem fill_one (C N : Array Value) (h : N.size = C.size) : Instr.fill (fun i => some (i * N.size, N.size)) C [(0, .agg N)] = some N := by
  have hc : (decide ((Value.agg N).cells.size ≠ N.size) || decide (0 * N.size + (Value.agg N).cells.size > C.size)) = false := by
    have h1 : (Value.agg N).cells.size = N.size := rfl
    rw [h1, h]
    simp
  have e := fold_all N C h
  unfold Instr.fill
  simp only
  rw [hc]
  simp only [Bool.false_eq_true, if_false]
  unfold Instr.fill
  exact congrArg some e
theorem run_buildSlice_one {P : Program} (w : World) {t e : TypeId} {n : Nat} {z : Value} (ht : P.underlying t = some (.slice e)) (hz : ∀ w, (zeroValue e).run P w = .ok z w) (hs : ∀ w, (sizeOf e).run P w = .ok n w)
    (hn : 0 < n) (hn2 : n ≤ 2 ^ 24) (N : Array Value) (hN : N.size = n) :
    (Instr.buildSlice t 1 #[(0, .agg N)]).run P w = .ok (.slice (some ⟨w.heap.size, 0, none⟩) 1 1) (w.alloc (.cells N e)) := by
  subst hN
  have hf := fill_one ((Array.range (1 * N.size)).map (z.cells[· % z.cells.size]!)) N (by simp)
  unfold Instr.buildSlice
  simp only [Sem.run_bind, run_underlying ht, Result.andThen_ok, hs]
  rw [if_neg (by omega)]
  simp only [Sem.run_bind, Sem.run_pure, Result.andThen_ok, if_neg (show ¬ 1 * N.size = 0 by omega), hz, hf]
  rfl
theorem bsRow {P : Program} {ops : Array Oper} {rest : List Oper} {dst : Option Tmp} {ty : TypeId} {pos : String} {after : Array Edge} {a : Act} {w : World} {Q : Exit → Act → World → Prop}
    {t e : TypeId} {n : Nat} {z : Value} (ht : P.underlying t = some (.slice e)) (hz : ∀ w, (zeroValue e).run P w = .ok z w) (hs : ∀ w, (sizeOf e).run P w = .ok n w) (hn0 : 0 < n) (hn2 : n ≤ 2 ^ 24)
    {x : Operand} {N : Array Value} (hx : a.eval x = .agg N) (hN : N.size = n)
    (h : wpList P ops Q rest (a.put dst (.slice (some ⟨w.heap.size, 0, none⟩) 1 1)) (w.alloc (.cells N e))) :
    wpList P ops Q (⟨dst, .buildSlice t 1 #[(0, x)], ty, pos, after, none⟩ :: rest) a w := by
  refine wpList_plain rfl fun K hK => ?_
  unfold Oper.wp
  have he : (execOp a.eval ⟨dst, .buildSlice t 1 #[(0, x)], ty, pos, after, none⟩).run P w = .ok (.value (.slice (some ⟨w.heap.size, 0, none⟩) 1 1)) (w.alloc (.cells N e)) := by
    unfold execOp
    simp only [List.map_toArray, List.map_cons, List.map_nil, hx, Sem.run_bind, run_buildSlice_one w ht hz hs hn0 hn2 N hN, Result.andThen_ok, Sem.run_pure]
  rw [he]
  exact hK _ _ h
/-! ## append, and where its result lies -/
section
variable {P : Program} (w : World)
theorem run_append_at (base : Nat) (t ty e : TypeId) (i : TypeInfo) (z : Value) (size bytes : Nat) (ht : P.underlying t = some (.slice e)) (hi : P.info? e = some i) (hz : i.zero = some z)
    (hsize : i.size = size) (hby : i.bytes = bytes) (hzs : z.cells.size = size) (hsz : 0 < size)
    (v : Value) (n : Nat) (xs : List Value) (hown : w.ownsRow base e size v n xs)
    (a : Addr) (m c : Nat) (news : List Value) (hl : news.length = m * size) (hnews : ∀ j u, news[j]? = some u → w.cell? (a.add j) = some u) (h1 : ∀ u ∈ news, u.oneCell' = true)
    (h63 : n + m ≤ maxLen) (hbytes : (n + m) * bytes ≤ 140737488355328) (hbase : base ≤ w.heap.size) :
    ∃ v' w', (Builtin.append_ #[t, t] ty #[v, .slice (some a) m c]).run P w = .ok v' w' ∧ w'.ownsRow base e size v' (n + m) (xs ++ news) ∧ w.grownBy w' v.ownBlock ∧
      (v'.ownBlock = v.ownBlock ∨ ∃ k, v'.ownBlock = some k ∧ w.heap.size ≤ k) := by
  obtain ⟨v', w', hr, ho, hg, -⟩ := run_append_own w base t ty e i z size bytes ht hi hz hsize hby hzs hsz v n xs hown a m c news hl hnews h1 h63 hbytes hbase
  refine ⟨v', w', hr, ho, hg, ?_⟩
  rcases hown.2 with ⟨rfl, rfl⟩ | ⟨g, cap, cur, rfl, hbg, hgc, hnc, hcm, hcs, htake⟩
  · have hx : xs = [] := List.eq_nil_of_length_eq_zero (by simpa using hown.1)
    subst hx
    obtain ⟨v2, w2, hr2, ho2, -, -⟩ := run_append_own w w.heap.size t ty e i z size bytes ht hi hz hsize hby hzs hsz (.slice none 0 0) 0 [] (World.ownsRow_nil _ _ _ _) a m c news hl hnews h1 h63 hbytes (Nat.le_refl _)
    rw [hr] at hr2
    cases hr2
    cases hv : v'.ownBlock with
    | none => exact .inl rfl
    | some k => exact .inr ⟨k, rfl, (ho2.lt k hv).1⟩
  · by_cases hroom : n + m ≤ cap
    · have hfit : n * i.size + news.length ≤ cur.size := by rw [hl, hcs, hsize, ← Nat.add_mul]; exact Nat.mul_le_mul_right _ hroom
      have hr2 := run_append_room (P := P) w t ty e i ht hi g n cap cur hgc a m c news (by rw [hl, hsize]) hnews h1 hroom hfit
      rw [hr] at hr2
      cases hr2
      exact .inl rfl
    · have holds : ∀ j u, xs[j]? = some u → w.cell? ((⟨g, 0, none⟩ : Addr).add j) = some u := hown.cells (g := g) rfl
      have hsmall : n + m ≤ 9223372036854775807 := by simp only [maxLen] at h63; omega
      have hr2 := run_append_grow (P := P) w t ty e i z ht hi hz ⟨g, 0, none⟩ n cap xs (by rw [hown.1, hsize]) holds a m c news (by rw [hl, hsize]) hnews (by omega) (by omega) (growslice_fits (by omega) (by rw [hby]; exact hbytes))
      rw [hr] at hr2
      cases hr2
      exact .inr ⟨w.heap.size, rfl, Nat.le_refl _⟩
end
theorem appendAt {P : Program} {ops : Array Oper} {rest : List Oper} {dst : Option Tmp} {ty : TypeId} {pos : String} {after : Array Edge} {a : Act} {w : World} {Q : Exit → Act → World → Prop} {s x : Operand} {t : TypeId}
    (base : Nat) {e : TypeId} {i : TypeInfo} {z : Value} {size bytes : Nat} (ht : P.underlying t = some (.slice e)) (hi : P.info? e = some i) (hz : i.zero = some z)
    (hsize : i.size = size) (hby : i.bytes = bytes) (hzs : z.cells.size = size) (hsz : 0 < size)
    {v : Value} {n : Nat} {xs : List Value} (hs : a.eval s = v) (hown : w.ownsRow base e size v n xs)
    {ad : Addr} {m c : Nat} (news : List Value) (hx : a.eval x = .slice (some ad) m c) (hl : news.length = m * size) (hnews : ∀ j u, news[j]? = some u → w.cell? (ad.add j) = some u) (h1 : ∀ u ∈ news, u.oneCell' = true)
    (h63 : n + m ≤ maxLen) (hbytes : (n + m) * bytes ≤ 140737488355328) (hbase : base ≤ w.heap.size)
    (h : ∀ v' w', w'.ownsRow base e size v' (n + m) (xs ++ news) → w.grownBy w' v.ownBlock → (v'.ownBlock = v.ownBlock ∨ ∃ k, v'.ownBlock = some k ∧ w.heap.size ≤ k) → wpList P ops Q rest (a.put dst v') w') :
    wpList P ops Q (⟨dst, .call { callee := .builtin .append, args := #[s, x], argTypes := #[t, t] }, ty, pos, after, none⟩ :: rest) a w := by
  obtain ⟨v', w', hr, h2, h3, h4⟩ := run_append_at (P := P) w base t ty e i z size bytes ht hi hz hsize hby hzs hsz v n xs hown ad m c news hl hnews h1 h63 hbytes hbase
  refine wpList_plain rfl fun K hK => ?_
  unfold Oper.wp
  have he : (execOp a.eval ⟨dst, .call { callee := .builtin .append, args := #[s, x], argTypes := #[t, t] }, ty, pos, after, none⟩).run P w = .ok (.value v') w' := by
    rw [BigFrame.execOp_builtin, BigFrame.builtin_append]
    simp only [List.map_toArray, List.map_cons, List.map_nil, hs, hx, Sem.run_bind, hr, Result.andThen_ok, Sem.run_pure]
  rw [he]
  exact hK _ _ (h v' w' h2 h3 h4)

/-! ## Nodes of a pattern as cells: both packages' nodes have one layout of 262 cells -/
def setL (f : UInt8 → Bool) : List Value := (List.range 256).map fun i => .bool (f (UInt8.ofNat i))
def ndL (k : Int) (c : UInt8) (f : UInt8 → Bool) (n mn mx : Int) (kv : Value) : List Value :=
  .int .i64 k :: .int .u8 (c.toNat : Int) :: (setL f ++ [.int .i64 n, .int .i64 mn, .int .i64 mx, kv])
def ndA (k : Int) (c : UInt8) (f : UInt8 → Bool) (n mn mx : Int) (kv : Value) : Array Value := (ndL k c f n mn mx kv).toArray
def setA (f : UInt8 → Bool) : Array Value := (setL f).toArray
def noS : UInt8 → Bool := fun _ => false
section
variable (k : Int) (c : UInt8) (f : UInt8 → Bool) (n mn mx : Int) (kv : Value)
theorem setL_length : (setL f).length = 256 := by simp [setL]
@[go_sem, simp] theorem setA_size : (setA f).size = 256 := by simp [setA, setL_length]
theorem setL_get (i : Nat) (h : i < 256) : (setL f)[i]? = some (.bool (f (UInt8.ofNat i))) := by simp [setL, h]
theorem ndL_length : (ndL k c f n mn mx kv).length = 262 := by simp [ndL, setL_length]
@[go_sem, simp] theorem ndA_size : (ndA k c f n mn mx kv).size = 262 := by simp [ndA, ndL_length]
@[go_sem, simp] theorem ndA_ne : (ndA k c f n mn mx kv = #[]) = False := by simp [ndA, ndL]
@[go_sem, simp] theorem ndA_set0 (k' : Int) : (ndA k c f n mn mx kv).setIfInBounds 0 (.int .i64 k') = ndA k' c f n mn mx kv := by simp [ndA, ndL]
@[go_sem, simp] theorem ndA_set1 (c' : UInt8) : (ndA k c f n mn mx kv).setIfInBounds 1 (.int .u8 (c'.toNat : Int)) = ndA k c' f n mn mx kv := by simp [ndA, ndL]
theorem ndA_hi (xs : List Value) (i : Nat) (v : Value) (h : 258 ≤ i) :
    (Value.int .i64 k :: .int .u8 (c.toNat : Int) :: (setL f ++ xs)).set i v = .int .i64 k :: .int .u8 (c.toNat : Int) :: (setL f ++ xs.set (i - 258) v) := by
  obtain ⟨j, rfl⟩ : ∃ j, i = j + 2 := ⟨i - 2, by omega⟩
  simp only [List.set_cons_succ]
  rw [List.set_append_right _ _ (by rw [setL_length]; omega), setL_length, show j + 2 - 258 = j - 256 by omega]
@[go_sem, simp] theorem ndA_set258 (n' : Int) : (ndA k c f n mn mx kv).setIfInBounds 258 (.int .i64 n') = ndA k c f n' mn mx kv := by
  simp only [ndA, ndL, List.setIfInBounds_toArray]; rw [ndA_hi _ _ _ _ _ _ (by omega)]; rfl
@[go_sem, simp] theorem ndA_set259 (n' : Int) : (ndA k c f n mn mx kv).setIfInBounds 259 (.int .i64 n') = ndA k c f n n' mx kv := by
  simp only [ndA, ndL, List.setIfInBounds_toArray]; rw [ndA_hi _ _ _ _ _ _ (by omega)]; rfl
@[go_sem, simp] theorem ndA_set260 (n' : Int) : (ndA k c f n mn mx kv).setIfInBounds 260 (.int .i64 n') = ndA k c f n mn n' kv := by
  simp only [ndA, ndL, List.setIfInBounds_toArray]; rw [ndA_hi _ _ _ _ _ _ (by omega)]; rfl
@[go_sem, simp] theorem ndA_set261 (v : Value) : (ndA k c f n mn mx kv).setIfInBounds 261 v = ndA k c f n mn mx v := by
  simp only [ndA, ndL, List.setIfInBounds_toArray]; rw [ndA_hi _ _ _ _ _ _ (by omega)]; rfl
theorem ndL_get_hi (xs : List Value) (i : Nat) (h : 258 ≤ i) :
    (Value.int .i64 k :: .int .u8 (c.toNat : Int) :: (setL f ++ xs))[i]? = xs[i - 258]? := by
  obtain ⟨j, rfl⟩ : ∃ j, i = j + 2 := ⟨i - 2, by omega⟩
  simp only [List.getElem?_cons_succ]
  rw [List.getElem?_append_right (by rw [setL_length]; omega), setL_length, show j + 2 - 258 = j - 256 by omega]
theorem ndA_getHi (i : Nat) (h : 258 ≤ i) : (ndA k c f n mn mx kv)[i]? = [Value.int .i64 n, .int .i64 mn, .int .i64 mx, kv][i - 258]? := by
  rw [← ndL_get_hi k c f _ i h]; simp [ndA, ndL]
@[go_sem, simp] theorem ndA_get0 : (ndA k c f n mn mx kv)[0]? = some (.int .i64 k) := by simp [ndA, ndL]
@[go_sem, simp] theorem ndA_get1 : (ndA k c f n mn mx kv)[1]? = some (.int .u8 (c.toNat : Int)) := by simp [ndA, ndL]
@[go_sem, simp] theorem ndA_get258 : (ndA k c f n mn mx kv)[258]? = some (.int .i64 n) := by rw [ndA_getHi _ _ _ _ _ _ _ _ (by omega)]; rfl
@[go_sem, simp] theorem ndA_get259 : (ndA k c f n mn mx kv)[259]? = some (.int .i64 mn) := by rw [ndA_getHi _ _ _ _ _ _ _ _ (by omega)]; rfl
@[go_sem, simp] theorem ndA_get260 : (ndA k c f n mn mx kv)[260]? = some (.int .i64 mx) := by rw [ndA_getHi _ _ _ _ _ _ _ _ (by omega)]; rfl
@[go_sem, simp] theorem ndA_get261 : (ndA k c f n mn mx kv)[261]? = some kv := by rw [ndA_getHi _ _ _ _ _ _ _ _ (by omega)]; rfl
theorem ndA_getSet (i : Nat) (h : i < 256) : (ndA k c f n mn mx kv)[i + 2]? = some (.bool (f (UInt8.ofNat i))) := by
  have : (ndA k c f n mn mx kv)[i + 2]? = (setL f ++ [.int .i64 n, .int .i64 mn, .int .i64 mx, kv])[i]? := by simp [ndA, ndL]
  rw [this, List.getElem?_append_left (by rw [setL_length]; exact h), setL_get f i h]
theorem setL_one : ∀ u ∈ setL f, u.oneCell' = true := by
  intro u hu
  simp only [setL, List.mem_map] at hu
  obtain ⟨i, -, rfl⟩ := hu
  rfl
theorem setA_one : (setA f).all (·.oneCell') = true := Array.all_eq_true_iff_forall_mem.2 fun v hv => setL_one f v (by simpa [setA] using hv)
theorem ndA_one (hk : kv.oneCell' = true) : (ndA k c f n mn mx kv).all (·.oneCell') = true := by
  refine Array.all_eq_true_iff_forall_mem.2 fun v hv => ?_
  simp only [ndA, ndL, List.mem_toArray, List.mem_cons, List.mem_append, List.not_mem_nil, or_false] at hv
  rcases hv with rfl | rfl | hv | rfl | rfl | rfl | rfl
  · rfl
  · rfl
  · exact setL_one f v hv
  · rfl
  · rfl
  · rfl
  · exact hk
theorem ndA_set (kv : Value) : (ndA k c f n mn mx kv).extract 2 258 = setA f := by
  apply Array.ext_getElem?
  intro i
  by_cases h : i < 256
  · rw [Array.getElem?_extract, if_pos (by rw [ndA_size]; omega), Nat.add_comm, ndA_getSet _ _ _ _ _ _ _ _ h]
    simp [setA, setL_get f i h]
  · rw [Array.getElem?_eq_none (by simp; omega), Array.getElem?_eq_none (by simp; omega)]
end
end Go.Proofs.YtkbfckigndkkkaaDoor

/-
  More laws on memory.
-/
namespace Go.Proofs.YtkbfckigndkkkaaDoor
open Go Go.RowKit
/-- The same at a step of a region that draws its order. -/
theorem stepAppendAt {P : Program} {ops : Array Oper} {dst : Option Tmp} {ty : TypeId} {pos : String} {after : Array Edge} {a : Act} {w : World} {K : Act → World → Prop} {Q : Exit → Act → World → Prop} {E : Prop} {s x : Operand} {t : TypeId}
    (base : Nat) {e : TypeId} {i : TypeInfo} {z : Value} {size bytes : Nat} (ht : P.underlying t = some (.slice e)) (hi : P.info? e = some i) (hz : i.zero = some z)
    (hsize : i.size = size) (hby : i.bytes = bytes) (hzs : z.cells.size = size) (hsz : 0 < size)
    {v : Value} {n : Nat} {xs : List Value} (hs : a.eval s = v) (hown : w.ownsRow base e size v n xs)
    {ad : Addr} {m c : Nat} (news : List Value) (hx : a.eval x = .slice (some ad) m c) (hl : news.length = m * size) (hnews : ∀ j u, news[j]? = some u → w.cell? (ad.add j) = some u) (h1 : ∀ u ∈ news, u.oneCell' = true)
    (h63 : n + m ≤ maxLen) (hbytes : (n + m) * bytes ≤ 140737488355328) (hbase : base ≤ w.heap.size)
    (h : ∀ v' w', w'.ownsRow base e size v' (n + m) (xs ++ news) → w.grownBy w' v.ownBlock → (v'.ownBlock = v.ownBlock ∨ ∃ k, v'.ownBlock = some k ∧ w.heap.size ≤ k) → K (a.put dst v') w') :
    if Region.wanted (⟨dst, .call { callee := .builtin .append, args := #[s, x], argTypes := #[t, t] }, ty, pos, after, none⟩ : Oper) (yielded ops a.tmps) = true then
      Oper.wp P ⟨dst, .call { callee := .builtin .append, args := #[s, x], argTypes := #[t, t] }, ty, pos, after, none⟩ a w K Q else E := by
  have hw : Region.wanted (⟨dst, .call { callee := .builtin .append, args := #[s, x], argTypes := #[t, t] }, ty, pos, after, none⟩ : Oper) (yielded ops a.tmps) = true := rfl
  rw [if_pos hw]
  obtain ⟨v', w', hr, h2, h3, h4⟩ := run_append_at (P := P) w base t ty e i z size bytes ht hi hz hsize hby hzs hsz v n xs hown ad m c news hl hnews h1 h63 hbytes hbase
  unfold Oper.wp
  have he : (execOp a.eval ⟨dst, .call { callee := .builtin .append, args := #[s, x], argTypes := #[t, t] }, ty, pos, after, none⟩).run P w = .ok (.value v') w' := by
    rw [BigFrame.execOp_builtin, BigFrame.builtin_append]
    simp only [List.map_toArray, List.map_cons, List.map_nil, hs, hx, Sem.run_bind, hr, Result.andThen_ok, Sem.run_pure]
  rw [he]
  exact h v' w' h2 h3 h4

theorem news_one {w : World} {g : Nat} {x : Value} (h : w.cell? ⟨g, 0, none⟩ = some x) : ∀ (j : Nat) (u : Value), [x][j]? = some u → w.cell? ((⟨g, 0, none⟩ : Addr).add j) = some u := by
  intro j u hj
  match j, hj with
  | 0, hj => simp only [List.getElem?_cons_zero, Option.some.injEq] at hj; subst hj; exact h
  | j + 1, hj => simp at hj
theorem one_list {x : Value} (h : x.oneCell' = true) : ∀ u ∈ [x], u.oneCell' = true := by
  intro u hu; simp only [List.mem_singleton] at hu; subst hu; exact h
/-- Behind an append: a block that is not the row's own. -/
theorem grown_heap {w w' : World} {row : Option Nat} (hg : w.grownBy w' row) {k : Nat} {o : Obj} (h : w.heap[k]? = some o) (hr : row ≠ some k) : w'.heap[k]? = some o := by
  rw [hg.block k (lt_of_heap h) (fun e => hr e.symm)]; exact h
theorem own_ne {w : World} {base n size : Nat} {e e' : TypeId} {v : Value} {xs : List Value} (h : w.ownsRow base e size v n xs) {g : Nat} {cs : Array Value} {fr : Nat × Nat} (hg : w.heap[g]? = some (.cells cs e' fr)) (hne : e' ≠ e) : v.ownBlock ≠ some g := by
  intro hv
  obtain ⟨_, h2⟩ := h
  rcases h2 with ⟨rfl, _⟩ | ⟨g', cap, cur, rfl, _, hh, _⟩
  · cases hv
  · cases hv
    rw [hh] at hg
    cases hg
    exact hne rfl
/-- What is owned is a slice. -/
theorem own_slice {w : World} {base n size : Nat} {e : TypeId} {v : Value} {xs : List Value} (h : w.ownsRow base e size v n xs) : ∃ a c, v = .slice a n c := by
  obtain ⟨_, h2⟩ := h
  rcases h2 with ⟨rfl, rfl⟩ | ⟨g, cap, cur, rfl, _⟩
  · exact ⟨_, _, rfl⟩
  · exact ⟨_, _, rfl⟩
/-- The last one taken off. -/
theorem own_pop {w : World} {base n : Nat} {e : TypeId} {a : Option Addr} {c : Nat} {xs : List Value} (h : w.ownsRow base e 1 (.slice a (n + 1) c) (n + 1) xs) : w.ownsRow base e 1 (.slice a n c) n xs.dropLast ∧ n + 1 ≤ c ∧ ∃ g, a = some ⟨g, 0, none⟩ := by
  obtain ⟨h1, h2⟩ := h
  rcases h2 with ⟨_, h2⟩ | ⟨g, cap, cur, hv, hb, hh, hc, hm, hs, ht⟩
  · omega
  · cases hv
    refine ⟨⟨by rw [List.length_dropLast, h1]; omega, .inr ⟨g, c, cur, rfl, hb, hh, by omega, hm, hs, ?_⟩⟩, hc, g, rfl⟩
    rw [← ht, List.dropLast_eq_take, List.length_take, List.take_take]
    congr 1
    rw [Array.length_toList, hs]
    omega
end Go.Proofs.YtkbfckigndkkkaaDoor

/-
  Patterns as trees: rows of nodes, and how such a row lies in memory.
-/
namespace Go.Proofs.YtkbfckigndkkkaaDoor
open Go Go.RowKit

/-- A node without its kids. -/
structure Hd where
  kind : Int
  byte : UInt8
  set : UInt8 → Bool
  n : Int
  mn : Int
  mx : Int
/-- A row of nodes: the first one, its kids, the rest of the row. -/
inductive Fo where
  | nil
  | cons (h : Hd) (kids rest : Fo)
namespace Fo
def tops : Fo → List Hd
  | nil => []
  | cons h _ r => h :: r.tops
def snoc : Fo → Hd → Fo → Fo
  | nil, h, k => cons h k nil
  | cons h' k' r, h, k => cons h' k' (r.snoc h k)
def one (h : Hd) (k : Fo) : Fo := cons h k nil
def kidsAt : Fo → Nat → Fo
  | nil, _ => nil
  | cons _ k _, 0 => k
  | cons _ _ r, i + 1 => r.kidsAt i
theorem tops_snoc (fo : Fo) (h : Hd) (k : Fo) : (fo.snoc h k).tops = fo.tops ++ [h] := by
  induction fo with
  | nil => rfl
  | cons h' k' r _ ih => simp [snoc, tops, ih]
end Fo
def ndH (h : Hd) (kv : Value) : Array Value := ndA h.kind h.byte h.set h.n h.mn h.mx kv
def ndHL (h : Hd) (kv : Value) : List Value := ndL h.kind h.byte h.set h.n h.mn h.mx kv
theorem ndH_toList (h : Hd) (kv : Value) : (ndH h kv).toList = ndHL h kv := rfl
theorem ndHL_length (h : Hd) (kv : Value) : (ndHL h kv).length = 262 := ndL_length _ _ _ _ _ _ _
theorem ndHL_set (h : Hd) (kv v : Value) : (ndHL h kv).set (0 * 262 + 261) v = ndHL h v := by
  have h2 := congrArg Array.toList (ndA_set261 h.kind h.byte h.set h.n h.mn h.mx kv v)
  rw [Array.toList_setIfInBounds] at h2
  exact h2
def ndsL : List Hd → List Value → List Value
  | h :: hs, kv :: kvs => ndHL h kv ++ ndsL hs kvs
  | _, _ => []
theorem ndsL_length : ∀ (hs : List Hd) (kvs : List Value), kvs.length = hs.length → (ndsL hs kvs).length = hs.length * 262
  | [], [], _ => rfl
  | h :: hs, kv :: kvs, hl => by
    simp only [ndsL, List.length_append, ndHL_length, List.length_cons]
    rw [ndsL_length hs kvs (by simpa using hl)]; omega
theorem ndsL_snoc : ∀ (hs : List Hd) (kvs : List Value) (h : Hd) (kv : Value), kvs.length = hs.length → ndsL (hs ++ [h]) (kvs ++ [kv]) = ndsL hs kvs ++ ndHL h kv
  | [], [], h, kv, _ => by simp [ndsL]
  | h' :: hs, kv' :: kvs, h, kv, hl => by simp [ndsL, ndsL_snoc hs kvs h kv (by simpa using hl)]
/-- Cell j of node i of a row. -/
theorem ndsL_get : ∀ (hs : List Hd) (kvs : List Value) (i j : Nat) (h : Hd) (kv : Value), kvs.length = hs.length → hs[i]? = some h → kvs[i]? = some kv → j < 262 →
    (ndsL hs kvs)[i * 262 + j]? = (ndHL h kv)[j]?
  | h' :: hs, kv' :: kvs, 0, j, h, kv, _, hh, hk, hj => by
    simp only [List.getElem?_cons_zero, Option.some.injEq] at hh hk
    subst hh; subst hk
    simp only [ndsL]
    rw [List.getElem?_append_left (by rw [ndHL_length]; omega)]; simp
  | h' :: hs, kv' :: kvs, i + 1, j, h, kv, hl, hh, hk, hj => by
    simp only [List.getElem?_cons_succ] at hh hk
    simp only [ndsL]
    rw [List.getElem?_append_right (by rw [ndHL_length]; omega), ndHL_length, show (i + 1) * 262 + j - 262 = i * 262 + j by omega]
    exact ndsL_get hs kvs i j h kv (by simpa using hl) hh hk hj
  | [], _, _, _, _, _, _, hh, _, _ => by simp at hh
  | _ :: _, [], _, _, _, _, hl, _, _, _ => by simp at hl
/-- The kids of node i written anew. -/
theorem ndsL_set : ∀ (hs : List Hd) (kvs : List Value) (i : Nat) (v : Value), kvs.length = hs.length → i < hs.length →
    (ndsL hs kvs).set (i * 262 + 261) v = ndsL hs (kvs.set i v)
  | h :: hs, kv :: kvs, 0, v, _, _ => by
    simp only [ndsL, List.set_cons_zero]
    rw [List.set_append_left _ _ (by rw [ndHL_length]; omega), ndHL_set]
  | h :: hs, kv :: kvs, i + 1, v, hl, hi => by
    simp only [ndsL, List.set_cons_succ]
    rw [List.set_append_right _ _ (by rw [ndHL_length]; omega), ndHL_length, show (i + 1) * 262 + 261 - 262 = i * 262 + 261 by omega,
      ndsL_set hs kvs i v (by simpa using hl) (by simpa using hi)]
  | [], _, _, _, _, hi => by simp at hi
  | _ :: _, [], _, _, hl, _ => by simp at hl

/-- The slice v is a row of nodes of the type e with these heads and these kids, in a block of D. -/
def RowAt (D : Nat → Prop) (e : TypeId) (w : World) (v : Value) (hs : List Hd) (kvs : List Value) : Prop :=
  kvs.length = hs.length ∧ ∃ a cap, v = .slice a hs.length cap ∧ hs.length ≤ cap ∧
    (hs = [] ∨ ∃ b o cs fr, D b ∧ a = some ⟨b, o, none⟩ ∧ w.heap[b]? = some (.cells cs e fr) ∧ (cs.toList.drop o).take (hs.length * 262) = ndsL hs kvs)
/-- The kids' values of a row are the kids. -/
def RepK (D : Nat → Prop) (e : TypeId) (w : World) : Fo → List Value → Prop
  | .nil, kvs => kvs = []
  | .cons _ kids rest, kvs => ∃ kv kvs' kk, kvs = kv :: kvs' ∧ RowAt D e w kv kids.tops kk ∧ RepK D e w kids kk ∧ RepK D e w rest kvs'
/-- The slice v is this row of nodes, all of it in blocks of D. -/
def Rep (D : Nat → Prop) (e : TypeId) (w : World) (v : Value) (fo : Fo) : Prop := ∃ kvs, RowAt D e w v fo.tops kvs ∧ RepK D e w fo kvs
/-- Blocks of D and of the type e are as they were. -/
def Keep (D : Nat → Prop) (e : TypeId) (w w' : World) : Prop := ∀ (b : Nat) (cs : Array Value) (fr : Nat × Nat), D b → w.heap[b]? = some (.cells cs e fr) → w'.heap[b]? = some (.cells cs e fr)
section
variable {D D' : Nat → Prop} {e : TypeId} {w w' : World}
theorem Keep.refl (D : Nat → Prop) (e : TypeId) (w : World) : Keep D e w w := fun _ _ _ _ h => h
theorem Keep.trans {w2 : World} (h : Keep D e w w') (g : Keep D e w' w2) : Keep D e w w2 := fun b cs fr hd hb => g b cs fr hd (h b cs fr hd hb)
theorem Keep.ofBelow (h : Below w.heap.size w w') : Keep D e w w' := fun b _ _ _ hb => by rw [h.block b (lt_of_heap hb)]; exact hb
theorem Keep.ofUpd {S : Nat → Option Obj → Prop} (h : Upd S w w') (hS : ∀ k cs fr, D k → w.heap[k]? = some (.cells cs e fr) → ¬ S k (some (.cells cs e fr))) : Keep D e w w' :=
  fun b cs fr hd hb => by rw [h.block b (lt_of_heap hb) (by rw [hb]; exact hS b cs fr hd hb)]; exact hb
theorem Keep.alloc (o : Obj) : Keep D e w (w.alloc o) := Keep.ofBelow ((Below.refl _ _).alloc (Nat.le_refl _) o)
theorem Keep.setRow (g : Nat) (cs : Array Value) (hg : ∀ k, D k → k < w.heap.size → k ≠ g) : Keep D e w (w.setRow g cs) := fun b _ _ hd hb => by
  rw [hq_row (hg b hd (lt_of_heap hb))]; exact hb
theorem Keep.setCell (p : Addr) (v : Value) (hg : ∀ k, D k → k < w.heap.size → k ≠ p.block) : Keep D e w (w.setCell p v) := fun b _ _ hd hb => by
  rw [hq_set (hg b hd (lt_of_heap hb))]; exact hb
theorem Keep.setRowT {g : Nat} {cs0 : Array Value} {e0 : TypeId} {fr0 : Nat × Nat} (h0 : w.heap[g]? = some (.cells cs0 e0 fr0)) (hne : e0 ≠ e) (cs : Array Value) : Keep D e w (w.setRow g cs) := fun b _ _ _ hb => by
  rw [hq_row (fun h => hne (by subst h; rw [h0] at hb; cases hb; rfl))]; exact hb
theorem Keep.setCellT {p : Addr} {cs0 : Array Value} {e0 : TypeId} {fr0 : Nat × Nat} (h0 : w.heap[p.block]? = some (.cells cs0 e0 fr0)) (hne : e0 ≠ e) (v : Value) : Keep D e w (w.setCell p v) := fun b _ _ _ hb => by
  rw [hq_set (fun h => hne (by subst h; rw [h0] at hb; cases hb; rfl))]; exact hb
theorem Keep.mono (h : Keep D e w w') (hD : ∀ k, D' k → k < w.heap.size → D k) : Keep D' e w w' := fun b cs fr hd hb => h b cs fr (hD b hd (lt_of_heap hb)) hb
/-- What the call itself owns stays owned. -/
theorem ownsRow_keep {base n size : Nat} {v : Value} {xs : List Value} (h : w.ownsRow base e size v n xs) (hk : Keep (fun g => base ≤ g ∧ v.ownBlock = some g) e w w') : w'.ownsRow base e size v n xs := by
  obtain ⟨h1, h2⟩ := h
  refine ⟨h1, ?_⟩
  rcases h2 with h2 | ⟨g, cap, cur, hv, hg, hh, r⟩
  · exact .inl h2
  · exact .inr ⟨g, cap, cur, hv, hg, hk g cur (0, 0) ⟨hg, by rw [hv]; rfl⟩ hh, r⟩
theorem RowAt.keep {v : Value} {hs : List Hd} {kvs : List Value} (h : RowAt D e w v hs kvs) (hk : Keep D e w w') : RowAt D e w' v hs kvs := by
  obtain ⟨h1, a, cap, hv, hc, h2⟩ := h
  refine ⟨h1, a, cap, hv, hc, ?_⟩
  rcases h2 with h2 | ⟨b, o, cs, fr, hd, ha, hb, ht⟩
  · exact .inl h2
  · exact .inr ⟨b, o, cs, fr, hd, ha, hk b cs fr hd hb, ht⟩
theorem RowAt.mono {v : Value} {hs : List Hd} {kvs : List Value} (h : RowAt D e w v hs kvs) (hD : ∀ k, D k → k < w.heap.size → D' k) : RowAt D' e w v hs kvs := by
  obtain ⟨h1, a, cap, hv, hc, h2⟩ := h
  refine ⟨h1, a, cap, hv, hc, ?_⟩
  rcases h2 with h2 | ⟨b, o, cs, fr, hd, ha, hb, ht⟩
  · exact .inl h2
  · exact .inr ⟨b, o, cs, fr, hD b hd (lt_of_heap hb), ha, hb, ht⟩
theorem RepK.keep (hk : Keep D e w w') : ∀ (fo : Fo) (kvs : List Value), RepK D e w fo kvs → RepK D e w' fo kvs := by
  intro fo
  induction fo with
  | nil => intro kvs h; exact h
  | cons hd kids rest ihk ihr =>
    intro kvs h
    obtain ⟨kv, kvs', kk, rfl, h1, h2, h3⟩ := h
    exact ⟨kv, kvs', kk, rfl, h1.keep hk, ihk _ h2, ihr _ h3⟩
theorem RepK.mono (hD : ∀ k, D k → k < w.heap.size → D' k) : ∀ (fo : Fo) (kvs : List Value), RepK D e w fo kvs → RepK D' e w fo kvs := by
  intro fo
  induction fo with
  | nil => intro kvs h; exact h
  | cons hd kids rest ihk ihr =>
    intro kvs h
    obtain ⟨kv, kvs', kk, rfl, h1, h2, h3⟩ := h
    exact ⟨kv, kvs', kk, rfl, h1.mono hD, ihk _ h2, ihr _ h3⟩
theorem Rep.keep {v : Value} {fo : Fo} (h : Rep D e w v fo) (hk : Keep D e w w') : Rep D e w' v fo :=
  let ⟨kvs, h1, h2⟩ := h
  ⟨kvs, h1.keep hk, RepK.keep hk _ _ h2⟩
theorem Rep.mono {v : Value} {fo : Fo} (h : Rep D e w v fo) (hD : ∀ k, D k → k < w.heap.size → D' k) : Rep D' e w v fo :=
  let ⟨kvs, h1, h2⟩ := h
  ⟨kvs, h1.mono hD, RepK.mono hD _ _ h2⟩
theorem Rep.nilSlice (D : Nat → Prop) (e : TypeId) (w : World) : Rep D e w (.slice none 0 0) .nil := ⟨[], ⟨rfl, none, 0, rfl, Nat.le_refl _, .inl rfl⟩, rfl⟩
theorem Rep.one {v : Value} {fo : Fo} (h : Rep D e w v fo) : v.oneCell' = true := by
  obtain ⟨_, ⟨_, _, _, rfl, _⟩, _⟩ := h
  rfl
theorem Rep.slice {v : Value} {fo : Fo} (h : Rep D e w v fo) : ∃ a c, v = .slice a fo.tops.length c := by
  obtain ⟨_, ⟨_, a, c, rfl, _⟩, _⟩ := h
  exact ⟨a, c, rfl⟩
theorem RepK.length : ∀ (fo : Fo) (kvs : List Value), RepK D e w fo kvs → kvs.length = fo.tops.length := by
  intro fo
  induction fo with
  | nil => intro kvs h; rw [show kvs = [] from h]; rfl
  | cons hd kids rest _ ih =>
    intro kvs h
    obtain ⟨kv, kvs', kk, rfl, -, -, h3⟩ := h
    simp [Fo.tops, ih _ h3]
theorem RepK.snoc {hd : Hd} {kids : Fo} {kv : Value} (hr : Rep D e w kv kids) : ∀ (fo : Fo) (kvs : List Value), RepK D e w fo kvs → RepK D e w (fo.snoc hd kids) (kvs ++ [kv]) := by
  intro fo
  induction fo with
  | nil =>
    intro kvs h
    obtain ⟨kk, h1, h2⟩ := hr
    rw [show kvs = [] from h]
    exact ⟨kv, [], kk, rfl, h1, h2, rfl⟩
  | cons hd' kids' rest _ ih =>
    intro kvs h
    obtain ⟨kv', kvs', kk, rfl, h1, h2, h3⟩ := h
    exact ⟨kv', kvs' ++ [kv], kk, rfl, h1, h2, ih _ h3⟩
/-- A row that the call itself has made. -/
theorem RowAt.ofOwned {base : Nat} {v : Value} {hs : List Hd} {kvs : List Value} (h : w.ownsRow base e 262 v hs.length (ndsL hs kvs)) (hl : kvs.length = hs.length) (hD : ∀ k, v.ownBlock = some k → D k) : RowAt D e w v hs kvs := by
  obtain ⟨_, h2⟩ := h
  rcases h2 with ⟨hv, hn⟩ | ⟨g, cap, cur, hv, _, hg, hc, _, _, ht⟩
  · exact ⟨hl, none, 0, by rw [hv, hn], by omega, .inl (List.length_eq_zero_iff.1 hn)⟩
  · exact ⟨hl, _, cap, hv, hc, .inr ⟨g, 0, cur, _, hD g (by rw [hv]; rfl), rfl, hg, by simpa using ht⟩⟩
/-- A row of one node in a block of its own. -/
theorem RowAt.single {g : Nat} {h : Hd} {kv : Value} {fr : Nat × Nat} (hg : w.heap[g]? = some (.cells (ndH h kv) e fr)) (hD : D g) : RowAt D e w (.slice (some ⟨g, 0, none⟩) 1 1) [h] [kv] :=
  ⟨rfl, _, 1, rfl, Nat.le_refl _, .inr ⟨g, 0, _, fr, hD, rfl, hg, by
    simp only [List.drop_zero, List.length_singleton, ndH_toList, ndsL, List.append_nil]
    exact List.take_of_length_le (by rw [ndHL_length]; omega)⟩⟩
/-- The parts of a row that is not empty. -/
theorem RowAt.parts {v : Value} {hs : List Hd} {kvs : List Value} (h : RowAt D e w v hs kvs) (hne : hs ≠ []) :
    ∃ b o cap cs fr, v = .slice (some ⟨b, o, none⟩) hs.length cap ∧ hs.length ≤ cap ∧ D b ∧ w.heap[b]? = some (.cells cs e fr) ∧
      ∀ i h kv, hs[i]? = some h → kvs[i]? = some kv → ∀ j, j < 262 → cs[o + (i * 262 + j)]? = (ndH h kv)[j]? := by
  obtain ⟨hl, a, cap, hv, hc, h2⟩ := h
  rcases h2 with h2 | ⟨b, o, cs, fr, hd, rfl, hb, ht⟩
  · exact absurd h2 hne
  · refine ⟨b, o, cap, cs, fr, hv, hc, hd, hb, fun i h kv hh hk j hj => ?_⟩
    have h3 := ndsL_get hs kvs i j h kv hl hh hk hj
    have hi : i < hs.length := by
      rcases Nat.lt_or_ge i hs.length with h | h
      · exact h
      · rw [List.getElem?_eq_none h] at hh; cases hh
    rw [← ht, List.getElem?_take, if_pos (by omega), List.getElem?_drop] at h3
    simpa [ndH, ndHL, ndA] using h3
end
end Go.Proofs.YtkbfckigndkkkaaDoor
