/-
  Walks: the classes' closures: span, some, and what they answer.
-/
import Derived.Test.YtkbfckigndkkkaaDoorEnv
import Derived.FnLit
namespace Go.Proofs.YtkbfckigndkkkaaDoor
set_option linter.unusedSimpArgs false
set_option linter.unusedVariables false
open Go Go.RowKit

/-- A block of cells, not of a map. -/
def CellB (w : World) (j : Nat) : Prop := ∃ c t o, w.heap[j]? = some (.cells c t o)
theorem cellB_of_cell {w : World} {g i : Nat} {v : Value} (h : w.cell? ⟨g, i, none⟩ = some v) : CellB w g := by
  unfold World.cell? at h
  cases hh : w.heap[g]? with
  | none => rw [hh] at h; cases h
  | some o =>
    cases o with
    | cells c t o => exact ⟨c, t, o, hh⟩
    | _ => rw [hh] at h; cases h
theorem CellB.lt {w : World} {j : Nat} (h : CellB w j) : j < w.heap.size := by
  obtain ⟨c, t, o, h⟩ := h
  exact lt_of_heap h
/-- The value v answers f of each byte, whatever the world does beside the blocks of cells from N on. -/
def IsV (N : Nat) (w : World) (v : Value) (f : UInt8 → Bool) : Prop :=
  ∃ k cap, v = .func (.func k) #[] cap ∧ (∀ (args : Array Value) (w : World), (callFunc k args).run Tryd.prog w = .ok (.enter k args) w) ∧ ∀ w' : World, (∀ j, N ≤ j → CellB w j → w'.heap[j]? = w.heap[j]?) → ∀ c : UInt8,
    Calls Tryd.prog k (#[.int .u8 c.toNat] ++ cap) w' fun e w'' => e = .returned (.bool (f c)) ∧ w'' = w'
theorem IsV.keep {N : Nat} {w w' : World} {v : Value} {f : UInt8 → Bool} (h : IsV N w v f) (hk : ∀ j, N ≤ j → CellB w j → w'.heap[j]? = w.heap[j]?) : IsV N w' v f := by
  obtain ⟨k, cap, hv, hcf, h⟩ := h
  exact ⟨k, cap, hv, hcf, fun w2 h2 c => h w2 (fun j h3 h4 => (h2 j h3 (by obtain ⟨x, t, o, h5⟩ := h4; exact ⟨x, t, o, (hk j h3 ⟨x, t, o, h5⟩).trans h5⟩)).trans (hk j h3 h4)) c⟩
theorem IsV.below {N : Nat} {w w' : World} {v : Value} {f : UInt8 → Bool} (h : IsV N w v f) (hk : Below w.heap.size w w') : IsV N w' v f := h.keep fun j _ hj => hk.block j hj.lt
theorem IsV.less {N M : Nat} {w : World} {v : Value} {f : UInt8 → Bool} (h : IsV N w v f) (hm : M ≤ N) : IsV M w v f := by
  obtain ⟨k, cap, hv, hcf, h⟩ := h
  exact ⟨k, cap, hv, hcf, fun w2 h2 c => h w2 (fun j h3 h4 => h2 j (by omega) h4) c⟩

set_option maxRecDepth 100000 in set_option maxHeartbeats 400000 in
theorem span1_any (w : World) (a b : Nat) (x y c : UInt8) (ha : w.cell? ⟨a, 0, none⟩ = some (.int .u8 x.toNat)) (hb : w.cell? ⟨b, 0, none⟩ = some (.int .u8 y.toNat)) (la : a < w.heap.size) (lb : b < w.heap.size) :
    Calls Tryd.prog 58 #[.int .u8 c.toNat, .pointer (some ⟨a, 0, none⟩), .pointer (some ⟨b, 0, none⟩)] w fun e w' => e = .returned (.bool (between x.toNat y.toNat c)) ∧ w' = w := by
  go_enter Tryd.func58, Tryd.ntmps58
  go_wp2_with fail
  · go_ret
    exact ⟨by unfold between; simp [*], rfl⟩
  · go_ret
    exact ⟨by unfold between; simp [*], rfl⟩
def spanW (w : World) (x y : UInt8) : World := (w.alloc (.cells #[.int .u8 x.toNat] 5)).alloc (.cells #[.int .u8 y.toNat] 5)
def spanV (w : World) : Value := .func (.func 58) #[] #[.pointer (some ⟨w.heap.size, 0, none⟩), .pointer (some ⟨w.heap.size + 1, 0, none⟩)]
set_option maxRecDepth 100000 in set_option maxHeartbeats 400000 in
theorem span_exact (w : World) (x y : UInt8) :
    Calls Tryd.prog 47 #[.int .u8 x.toNat, .int .u8 y.toNat] w fun e w' => e = .returned (spanV w) ∧ w' = spanW w x y := by
  have hmf : ∀ (fn : Fn) (first cap : Array Value) (w : World), (Instr.makeFunc fn first cap).run Tryd.prog w = .ok (.func fn first cap) w := fun _ _ _ _ => rfl
  go_enter Tryd.func47, Tryd.ntmps47
  go_wp2_with fail
  go_ret
  exact ⟨rfl, rfl⟩
set_option maxRecDepth 100000 in set_option maxHeartbeats 400000 in
theorem span_is (w : World) (x y : UInt8) : IsV w.heap.size (spanW w x y) (spanV w) (between x.toNat y.toNat) := by
  have q0 : (spanW w x y).heap[w.heap.size]? = some (.cells #[.int .u8 x.toNat] 5 (0, 0)) := (hq_ne (by rw [sz_alloc]; omega)).trans (hq_eq rfl)
  have q1 : (spanW w x y).heap[w.heap.size + 1]? = some (.cells #[.int .u8 y.toNat] 5 (0, 0)) := hq_eq (by rw [sz_alloc])
  have hz : (spanW w x y).heap.size = w.heap.size + 2 := by unfold spanW; rw [sz_alloc, sz_alloc]
  refine ⟨_, _, rfl, fun _ _ => rfl, fun w' hk c => ?_⟩
  have r0 := (hk w.heap.size (Nat.le_refl _) ⟨_, _, _, q0⟩).trans q0
  have r1 := (hk (w.heap.size + 1) (by omega) ⟨_, _, _, q1⟩).trans q1
  exact span1_any w' _ _ x y c (by rw [cell_of_heap r0]; rfl) (by rw [cell_of_heap r1]; rfl) (lt_of_heap r0) (lt_of_heap r1)
theorem span_below (w : World) (x y : UInt8) : Below w.heap.size w (spanW w x y) := ((Below.refl _ _).alloc (Nat.le_refl _) _).alloc (by simp) _
theorem span_any (w : World) (x y : UInt8) :
    Calls Tryd.prog 47 #[.int .u8 x.toNat, .int .u8 y.toNat] w fun e w' => ∃ v, e = .returned v ∧ IsV w.heap.size w' v (between x.toNat y.toNat) ∧ Below w.heap.size w w' := by
  refine (span_exact w x y).mono ?_
  rintro e w' ⟨rfl, rfl⟩
  exact ⟨_, rfl, span_is w x y, span_below w x y⟩

def anyF (fs : List (UInt8 → Bool)) : UInt8 → Bool := fun c => fs.any (· c)
set_option maxRecDepth 100000 in set_option maxHeartbeats 4000000 in
theorem some1_any (N : Nat) (w0 w : World) (p g : Nat) (vs : List Value) (fs : List (UInt8 → Bool)) (c : UInt8) (hp : w.cell? ⟨p, 0, none⟩ = some (.slice (some ⟨g, 0, none⟩) vs.length vs.length)) (hl : fs.length = vs.length) (hs : vs.length ≤ 10)
    (hc : ∀ (i : Nat) v, vs[i]? = some v → w.cell? ⟨g, i, none⟩ = some v) (hv : ∀ (i : Nat) v f, vs[i]? = some v → fs[i]? = some f → IsV N w0 v f) (hk : ∀ j, N ≤ j → CellB w0 j → w.heap[j]? = w0.heap[j]?) :
    Calls Tryd.prog 65 #[.int .u8 c.toNat, .pointer (some ⟨p, 0, none⟩)] w fun e w' => e = .returned (.bool (anyF fs c)) ∧ w' = w := by
  have lp := lt_of_cell hp
  go_enter Tryd.func65, Tryd.ntmps65
  go_wp2_with fail
  go_loopw [8] (fun v wr => wr = w ∧ ∃ i : Nat, i ≤ vs.length ∧ v = .int .i64 i ∧ (fs.take i).any (· c) = false) (fun v _ => match v with | .int _ i => vs.length - i.toNat | _ => 0)
  case atStart => exact ⟨rfl, 0, Nat.zero_le _, rfl, rfl⟩
  case round =>
    obtain ⟨rfl, i, hi, rfl, hf⟩ := hrel
    rcases Nat.lt_or_ge i vs.length with hlt | hge
    · have hcell := hc i _ (List.getElem?_eq_getElem hlt)
      obtain ⟨k, cap, hkv, hcf, hcall⟩ := hv i _ _ (List.getElem?_eq_getElem hlt) (List.getElem?_eq_getElem (by omega))
      rw [hkv] at hcell
      have lg := lt_of_cell hcell
      have hd : decide (i < vs.length) = true := decide_eq_true hlt
      go_wp2_with fail
      refine (hcall _ hk c).mono ?_
      rintro e w'' ⟨rfl, rfl⟩
      cases hfc : (fs[i]'(by omega)) c with
      | true =>
        go_wp2_with fail
        go_ret
        refine ⟨?_, rfl⟩
        have : anyF fs c = true := List.any_eq_true.2 ⟨_, List.getElem_mem (by omega), hfc⟩
        rw [this]; rfl
      | false =>
        go_wp2_with fail
        go_roundw
        case rel =>
          refine ⟨trivial, i + 1, hlt, by simp, ?_⟩
          rw [List.take_succ_eq_append_getElem (by omega), List.any_append, hf]
          simp [hfc]
        case measure => simp only [Int.toNat_natCast]; omega
    · have hd : decide (i < vs.length) = false := decide_eq_false (by omega)
      go_wp2_with fail
      go_ret
      refine ⟨?_, rfl⟩
      have : anyF fs c = false := by rw [List.take_of_length_le (by omega)] at hf; exact hf
      rw [this]; rfl
set_option maxRecDepth 100000 in set_option maxHeartbeats 400000 in
theorem some_any (N : Nat) (w : World) (g : Nat) (vs : List Value) (fs : List (UInt8 → Bool)) (hl : fs.length = vs.length) (hs : vs.length ≤ 10) (hN : N ≤ w.heap.size) (hg : N ≤ g)
    (hc : ∀ (i : Nat) v, vs[i]? = some v → w.cell? ⟨g, i, none⟩ = some v) (h0 : 0 < vs.length) (hv : ∀ (i : Nat) v f, vs[i]? = some v → fs[i]? = some f → IsV N w v f) :
    Calls Tryd.prog 56 #[.slice (some ⟨g, 0, none⟩) vs.length vs.length] w fun e w' => ∃ v, e = .returned v ∧ IsV N w' v (anyF fs) ∧ Below w.heap.size w w' := by
  have hmf : ∀ (fn : Fn) (first cap : Array Value) (w : World), (Instr.makeFunc fn first cap).run Tryd.prog w = .ok (.func fn first cap) w := fun _ _ _ _ => rfl
  go_enter Tryd.func56, Tryd.ntmps56
  go_wp2_with fail
  go_ret
  have lg := lt_of_cell (hc 0 _ (List.getElem?_eq_getElem h0))
  have q0 : (w.alloc (.cells #[.slice (some ⟨g, 0, none⟩) vs.length vs.length] 110)).heap[w.heap.size]? = some (.cells #[.slice (some ⟨g, 0, none⟩) vs.length vs.length] 110 (0, 0)) := hq_eq rfl
  have hz : (w.alloc (.cells #[.slice (some ⟨g, 0, none⟩) vs.length vs.length] 110)).heap.size = w.heap.size + 1 := by simp
  refine ⟨_, rfl, ⟨_, _, rfl, fun _ _ => rfl, fun w' hk c => ?_⟩, (Below.refl _ _).alloc (Nat.le_refl _) _⟩
  have r0 := (hk w.heap.size hN ⟨_, _, _, q0⟩).trans q0
  have hk2 : ∀ j, N ≤ j → CellB w j → w'.heap[j]? = w.heap[j]? := fun j h1 h2 => (hk j h1 (by obtain ⟨x, t, o, h5⟩ := h2; exact ⟨x, t, o, (heap_alloc_lt (lt_of_heap h5)).trans h5⟩)).trans (heap_alloc_lt h2.lt)
  exact some1_any N w w' w.heap.size g vs fs c (by rw [cell_of_heap r0]; rfl) hl hs (fun i v hi => by
    rw [World.cell?_of_block (w := w) (hk2 g hg (cellB_of_cell (hc 0 _ (List.getElem?_eq_getElem h0))))]; exact hc i v hi) hv hk2
set_option maxRecDepth 100000 in set_option maxHeartbeats 4000000 in
theorem named1_any (N : Nat) (w0 w : World) (p q : Nat) (u v : Value) (f h : UInt8 → Bool) (c : UInt8) (hp : w.cell? ⟨p, 0, none⟩ = some u) (hq : w.cell? ⟨q, 0, none⟩ = some v)
    (hu : IsV N w0 u f) (hv : IsV N w0 v h) (hk : ∀ j, N ≤ j → CellB w0 j → w.heap[j]? = w0.heap[j]?) :
    Calls Tryd.prog 57 #[.int .u8 c.toNat, .pointer (some ⟨p, 0, none⟩), .pointer (some ⟨q, 0, none⟩)] w fun e w' => e = .returned (.bool (f c && !h c)) ∧ w' = w := by
  obtain ⟨k1, cap1, rfl, hcf1, hcall1⟩ := hu
  obtain ⟨k2, cap2, rfl, hcf2, hcall2⟩ := hv
  have lp := lt_of_cell hp
  have lq := lt_of_cell hq
  go_enter Tryd.func57, Tryd.ntmps57
  go_wp2_with fail
  refine (hcall1 _ hk c).mono ?_
  rintro e w'' ⟨rfl, rfl⟩
  cases hf : f c with
  | false =>
    go_wp2_with fail
    go_ret
    exact ⟨by rw [hf]; rfl, rfl⟩
  | true =>
    go_wp2_with fail
    refine (hcall2 _ hk c).mono ?_
    rintro e w'' ⟨rfl, rfl⟩
    go_wp2_with fail
    go_ret
    exact ⟨by rw [hf]; rfl, rfl⟩
theorem two_bytes {s : ByteArray} (h : 1 < s.size) : ∃ t, s.data.toList = s[0]'(by omega) :: s[1]'h :: t := by
  rcases hs : s.data.toList with _ | ⟨a, _ | ⟨b, t⟩⟩
  · rw [bytes_len, hs] at h; simp at h
  · rw [bytes_len, hs] at h; simp at h
  · refine ⟨t, ?_⟩
    rw [first_byte hs]
    have h1 : s.data.toList[1]? = some b := by rw [hs]; rfl
    rw [Array.getElem?_toList, Array.getElem?_eq_getElem (by exact h)] at h1
    have : s[1]'h = b := Option.some.inj h1
    rw [this]
theorem kind_short {s : ByteArray} (h : s.size ≤ 1) : clsKind s.data.toList = 0 := by
  rcases hs : s.data.toList with _ | ⟨a, _ | ⟨b, t⟩⟩
  · rfl
  · rfl
  · rw [bytes_len, hs] at h; simp at h
theorem kind_two {s : ByteArray} (h : 1 < s.size) : clsKind s.data.toList = if s[0]'(by omega) = 91 ∧ (s[1]'h = 58 ∨ s[1]'h = 46 ∨ s[1]'h = 61) then s[1]'h else 0 := by
  obtain ⟨t, ht⟩ := two_bytes h
  rw [ht]; rfl
theorem idx3 (b : UInt8) : Lib.indexByte [58, 46, 61] b = if b = 58 then 0 else if b = 46 then 1 else if b = 61 then 2 else -1 := by
  by_cases h1 : b = 58
  · subst h1; rfl
  · by_cases h2 : b = 46
    · subst h2; rfl
    · by_cases h3 : b = 61
      · subst h3; rfl
      · have e1 : ((58 : UInt8) == b) = false := by rw [beq_eq_false_iff_ne]; exact fun e => h1 e.symm
        have e2 : ((46 : UInt8) == b) = false := by rw [beq_eq_false_iff_ne]; exact fun e => h2 e.symm
        have e3 : ((61 : UInt8) == b) = false := by rw [beq_eq_false_iff_ne]; exact fun e => h3 e.symm
        simp [Lib.indexByte, e1, e2, e3, h1, h2, h3]
set_option maxRecDepth 100000 in set_option maxHeartbeats 4000000 in
theorem kind_any (w : World) (s : ByteArray) :
    Calls Tryd.prog 44 #[.string s] w fun e w' => e = .returned (.int .u8 (clsKind s.data.toList).toNat) ∧ w' = w := by
  go_enter Tryd.func44, Tryd.ntmps44
  by_cases h1 : s.size ≤ 1
  · have hd : decide ((s.size : Int) ≤ 1) = true := by simp; omega
    have hk := Lib.hid (kind_short h1)
    go_wp2_with fail
    all_goals (try (exfalso; omega))
    go_ret
    rw [hk.out]
    exact ⟨rfl, rfl⟩
  · have h2 : 1 < s.size := by omega
    have hk := Lib.hid (kind_two h2)
    have hp : 0 < s.size := by omega
    by_cases h0 : s[0]'hp = 91
    · go_wp2_with fail
      all_goals (try (exfalso; omega))
      refine (Tryd.strings_IndexByte _ _ _).mono ?_
      rintro e w' ⟨rfl, rfl⟩
      rw [show (({ data := #[58, 46, 61] } : ByteArray).data.toList) = [58, 46, 61] from rfl, show ((((s[1]'h2).toNat : Int).toNat).toUInt8) = s[1]'h2 by simp, idx3]
      by_cases hb : s[1]'h2 = 58 ∨ s[1]'h2 = 46 ∨ s[1]'h2 = 61
      · obtain ⟨v, hv, h0v⟩ : ∃ v : Int, (if s[1]'h2 = 58 then (0 : Int) else if s[1]'h2 = 46 then 1 else if s[1]'h2 = 61 then 2 else -1) = v ∧ 0 ≤ v := by
          rcases hb with h | h | h
          · exact ⟨0, by rw [h]; rfl, by decide⟩
          · exact ⟨1, by rw [h]; rfl, by decide⟩
          · exact ⟨2, by rw [h]; rfl, by decide⟩
        rw [hv]
        have HB := Lib.hid hb
        clear hb hv
        go_wp2_with fail
        all_goals (try (exfalso; omega))
        go_ret
        rw [hk.out, if_pos ⟨h0, HB.out⟩]
        exact ⟨rfl, rfl⟩
      · rw [if_neg (fun h => hb (.inl h)), if_neg (fun h => hb (.inr (.inl h))), if_neg (fun h => hb (.inr (.inr h)))]
        have HB := Lib.hid hb
        clear hb
        go_wp2_with fail
        all_goals (try (exfalso; omega))
        go_ret
        rw [hk.out, if_neg (fun h => HB.out h.2)]
        exact ⟨rfl, rfl⟩
    · have hd : ((s[0]'hp).toNat : Int) ≠ 91 := fun e => h0 (UInt8.toNat_inj.1 (by show _ = 91; omega))
      go_wp2_with fail
      all_goals (try (exfalso; omega))
      go_ret
      rw [hk.out, if_neg (fun h => h0 h.1)]
      exact ⟨rfl, rfl⟩
end Go.Proofs.YtkbfckigndkkkaaDoor
