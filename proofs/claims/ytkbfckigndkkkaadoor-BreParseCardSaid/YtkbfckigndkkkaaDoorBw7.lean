/-
  Walks: a row of parts.
-/
import Derived.Test.YtkbfckigndkkkaaDoorBw5
namespace Go.Proofs.YtkbfckigndkkkaaDoor
set_option linter.unusedSimpArgs false
set_option linter.unusedVariables false
open Go Go.RowKit

def RowRel (b : Nat) (w : World) (n : Nat) (R : Option (Fo × PSt)) (v : Value) (wr : World) : Prop :=
  ∃ m st acc kvs, rowS m st acc = R ∧ m ≤ n ∧ st.left.length < m ∧ st.left.length ≤ 1000 ∧ 0 ≤ st.m ∧ st.m ≤ 200 ∧ 0 ≤ st.g ∧ st.g ≤ 9 ∧ (st.opn.length : Int) ≤ st.g ∧ (acc.tops.length : Int) ≤ st.m ∧
    StW wr b st ∧ wr.ownsRow w.heap.size 41 262 v acc.tops.length (ndsL acc.tops kvs) ∧ RepK (fun j => w.heap.size ≤ j ∧ v.ownBlock ≠ some j) 41 wr acc kvs ∧ Upd (SP b) w wr

theorem rowS_none {m : Nat} {st : PSt} {acc : Fo} (he : ¬ (st.left = [] ∨ Lib.hasPrefix st.left [92, 41] = true)) (hq : partS (fun s => rowS m s .nil) st (decide (acc.tops.length = 0)) (lastBegin acc) = none) :
    rowS (m + 1) st acc = none := by rw [rowS, if_neg he, hq]
theorem rowS_plain {m : Nat} {st st1 : PSt} {acc : Fo} {h : Hd} {k : Fo} (he : ¬ (st.left = [] ∨ Lib.hasPrefix st.left [92, 41] = true)) (hq : partS (fun s => rowS m s .nil) st (decide (acc.tops.length = 0)) (lastBegin acc) = some ((h, k), st1))
    (hk : h.kind = 4 ∨ h.kind = 5) : rowS (m + 1) st acc = rowS m st1 (acc.snoc h k) := by rw [rowS, if_neg he, hq]; simp only [if_pos hk]
theorem rowS_tnone {m : Nat} {st st1 : PSt} {acc : Fo} {h : Hd} {k : Fo} (he : ¬ (st.left = [] ∨ Lib.hasPrefix st.left [92, 41] = true)) (hq : partS (fun s => rowS m s .nil) st (decide (acc.tops.length = 0)) (lastBegin acc) = some ((h, k), st1))
    (hk : ¬ (h.kind = 4 ∨ h.kind = 5)) (ht : timesS (st1.left.length + 1) st1 h k = none) : rowS (m + 1) st acc = none := by rw [rowS, if_neg he, hq]; simp only [if_neg hk, ht]
theorem rowS_times {m : Nat} {st st1 st2 : PSt} {acc : Fo} {h h2 : Hd} {k k2 : Fo} (he : ¬ (st.left = [] ∨ Lib.hasPrefix st.left [92, 41] = true)) (hq : partS (fun s => rowS m s .nil) st (decide (acc.tops.length = 0)) (lastBegin acc) = some ((h, k), st1))
    (hk : ¬ (h.kind = 4 ∨ h.kind = 5)) (ht : timesS (st1.left.length + 1) st1 h k = some ((h2, k2), st2)) : rowS (m + 1) st acc = rowS m st2 (acc.snoc h2 k2) := by rw [rowS, if_neg he, hq]; simp only [if_neg hk, ht]

theorem last_node : ∀ (hs : List Hd) (kvs : List Value) (hl : Hd), kvs.length = hs.length → hs.getLast? = some hl → (ndsL hs kvs)[(hs.length - 1) * 262]? = some (.int .i64 hl.kind) := by
  intro hs kvs hl he hg
  have hne : hs ≠ [] := by rintro rfl; cases hg
  have h1 : hs[hs.length - 1]? = some hl := by rw [← List.getLast?_eq_getElem?]; exact hg
  have hlen : 0 < hs.length := List.length_pos_iff.2 hne
  have h2 : kvs[hs.length - 1]? = some (kvs[hs.length - 1]'(by omega)) := List.getElem?_eq_getElem _
  have := ndsL_get hs kvs (hs.length - 1) 0 hl _ he h1 h2 (by omega)
  rw [Nat.add_zero] at this
  rw [this]; rfl
theorem news_row {w : World} {g : Nat} {h : Hd} {kv : Value} {fr : Nat × Nat} (hg : w.heap[g]? = some (.cells (ndH h kv) 41 fr)) :
    ∀ (j : Nat) (u : Value), (ndHL h kv)[j]? = some u → w.cell? ((⟨g, 0, none⟩ : Addr).add j) = some u := by
  intro j u hj
  have e : (⟨g, 0, none⟩ : Addr).add j = ⟨g, j, none⟩ := by cases j <;> simp [Addr.add]
  rw [e, cell_of_heap hg, ← hj, ← ndH_toList, Array.getElem?_toList]
theorem nds_one {h : Hd} {kv : Value} (hk : kv.oneCell' = true) : ∀ u ∈ ndHL h kv, u.oneCell' = true := by
  intro u hu
  have := Array.all_eq_true_iff_forall_mem.1 (ndA_one h.kind h.byte h.set h.n h.mn h.mx kv hk) u
  exact this (by rw [← Array.mem_toList_iff]; exact hu)

/-- One more part in the row. -/
theorem row_step {b n m : Nat} {w wa w' : World} {R : Option (Fo × PSt)} {v v' kv : Value} {acc k : Fo} {h : Hd} {kvs : List Value} {st : PSt}
    (hX : rowS m st (acc.snoc h k) = R) (hmn : m ≤ n) (hl : st.left.length < m) (hl2 : st.left.length ≤ 1000) (h0 : 0 ≤ st.m) (h1 : st.m ≤ 200) (g0 : 0 ≤ st.g) (g9 : st.g ≤ 9) (ho : (st.opn.length : Int) ≤ st.g) (hk : (acc.tops.length : Int) + 1 ≤ st.m)
    (hS : StW wa b st) (hown : wa.ownsRow w.heap.size 41 262 v acc.tops.length (ndsL acc.tops kvs)) (hRep : RepK (fun j => w.heap.size ≤ j ∧ v.ownBlock ≠ some j) 41 wa acc kvs)
    (hR : Rep (fun j => w.heap.size ≤ j ∧ v.ownBlock ≠ some j) 41 wa kv k) (hU : Upd (SP b) w wa) (hb : b < w.heap.size)
    (hown' : w'.ownsRow w.heap.size 41 262 v' (acc.tops.length + 1) (ndsL acc.tops kvs ++ ndHL h kv)) (hgr : wa.grownBy w' v.ownBlock) (hat : v'.ownBlock = v.ownBlock ∨ ∃ k, v'.ownBlock = some k ∧ wa.heap.size ≤ k) :
    RowRel b w n R v' w' ∧ StW w' b st := by
  have hlen := RepK.length _ _ hRep
  have hkeep : Keep (fun j => (w.heap.size ≤ j ∧ v.ownBlock ≠ some j) ∧ j < wa.heap.size) 41 wa w' := fun j cs fr hj hh => grown_heap hgr hh hj.1.2
  have hD : ∀ j, (w.heap.size ≤ j ∧ v.ownBlock ≠ some j) → j < wa.heap.size → (w.heap.size ≤ j ∧ v'.ownBlock ≠ some j) := by
    intro j hj hlt
    refine ⟨hj.1, ?_⟩
    rcases hat with e | ⟨k, e, hk⟩
    · rw [e]; exact hj.2
    · rw [e]; intro he; cases he; omega
  have hlow : ∀ j, v.ownBlock = some j → w.heap.size ≤ j := fun j hj => (hown.lt j hj).1
  have hS' : StW w' b st := by
    obtain ⟨s, ov, hs, hP, hO⟩ := hS
    refine ⟨s, ov, hs, grown_heap hgr hP (own_ne hown hP (by decide)), ownsRow_keep hO fun j cs fr hj hh => grown_heap hgr hh (own_ne hown hh (by decide))⟩
  refine ⟨⟨m, st, acc.snoc h k, kvs ++ [kv], hX, hmn, hl, hl2, h0, h1, g0, g9, ho, by rw [Fo.tops_snoc, List.length_append, List.length_singleton]; omega, hS', ?_, ?_, ?_⟩, hS'⟩
  · rw [Fo.tops_snoc, List.length_append, List.length_singleton, ndsL_snoc _ _ _ _ hlen]; exact hown'
  · exact RepK.snoc (((hR.mono fun j hj hlt => ⟨hj, hlt⟩).keep hkeep).mono fun j hj _ => hD j hj.1 hj.2) _ _ (RepK.mono (fun j hj _ => hD j hj.1 hj.2) _ _ (RepK.keep hkeep _ _ (RepK.mono (fun j hj hlt => ⟨hj, hlt⟩) _ _ hRep)))
  · exact hU.grown hgr fun j hj hlt => absurd (hlow j hj) (by omega)

set_option maxRecDepth 100000 in set_option maxHeartbeats 4000000 in
theorem row_any (n : Nat) (ih : ∀ m, m < n → RowSaid m) (hcls : ClsSaid) : RowSaid n := by
  intro w b st hS hE h4 h0 h1 g0 g9 ho hl hl2
  have hRR : RowRel b w n (rowS n st .nil) (.slice none 0 0) w :=
    ⟨n, st, .nil, [], rfl, Nat.le_refl _, hl, hl2, h0, h1, g0, g9, ho, by simpa [Fo.tops] using h0, hS, World.ownsRow_nil _ _ _ _, rfl, Upd.refl _ _⟩
  generalize rowS n st .nil = R at *
  have hb : b < w.heap.size := hS.lt
  clear hS h0 h1 hl hl2 g0 g9 ho st
  go_enter Tryd.func13, Tryd.ntmps13
  go_wp2_with fail
  go_loopw [3] (fun v wr => RowRel b w n R v wr) (fun _ wr => leftLen wr b)
  case atStart => exact hRR
  case round =>
    clear hRR
    obtain ⟨m, st, acc, kvs, hR, hmn, hl, hl2, h0, h1, g0, g9, ho, hk, hS, hown, hRep, hU⟩ := hrel
    obtain ⟨m, rfl⟩ : ∃ m', m = m' + 1 := ⟨m - 1, by omega⟩
    have HR := Lib.hid hR
    clear hR
    obtain ⟨a, cp, rfl⟩ := own_slice hown
    have hLL := Lib.hid hS.leftLen
    obtain ⟨s, ov, hs, hP, hO⟩ := hS
    have hb1 := hP.lt
    obtain ⟨c0, -, -, -, -⟩ := hP.cells
    by_cases hend : st.left = [] ∨ Lib.hasPrefix st.left [92, 41] = true
    · have hX : R = some (acc, st) := by rw [← HR.out, rowS, if_pos hend]
      have hFin : OutR b w R (.returned (.slice a acc.tops.length cp)) wr := by
        rw [hX]
        exact ⟨_, rfl, ⟨kvs, RowAt.ofOwned hown (RepK.length _ _ hRep) fun k hk => (hown.lt k hk).1, RepK.mono (fun k hk _ => hk.1) _ _ hRep⟩, ⟨s, ov, hs, hP, hO⟩, hU⟩
      cases hl0 : st.left with
      | nil =>
        have hne : s.toList.isEmpty = true := by rw [bytes_toList, hs, hl0]; rfl
        clear hs
        go_wp2_with fail
        go_ret
        exact hFin
      | cons c t =>
        have hne : s.toList.isEmpty = false := by rw [bytes_toList, hs, hl0]; rfl
        have e1 : Lib.hasPrefix s.data.toList (⟨#[92, 41]⟩ : ByteArray).data.toList = true := by
          rcases hend with h | h
          · rw [hl0] at h; cases h
          · rw [hs]; exact h
        clear hs
        go_wp2_with (go_at_call 17; refine (Tryd.strings_HasPrefix _ _ _).mono ?_; rintro e w' ⟨rfl, rfl⟩; rw [e1])
        go_ret
        exact hFin
    · obtain ⟨hend1, hend2⟩ := not_or.1 hend
      obtain ⟨c, t, hl0⟩ : ∃ c t, st.left = c :: t := by
        cases h : st.left with
        | nil => exact absurd h hend1
        | cons c t => exact ⟨c, t, rfl⟩
      have hne : s.toList.isEmpty = false := by rw [bytes_toList, hs, hl0]; rfl
      have e1 : Lib.hasPrefix s.data.toList (⟨#[92, 41]⟩ : ByteArray).data.toList = false := by
        rw [hs]; exact Bool.eq_false_iff.2 hend2
      have HS := Lib.hid hs
      have HG := Lib.hid hl0
      clear hs hl0 hend hend1
      rcases Nat.eq_zero_or_pos acc.tops.length with hN | hN
      · have i0 : ((acc.tops.length : Int) == 0) = true := by rw [hN]; rfl
        have hfb : partS (fun s => rowS m s .nil) st (decide (acc.tops.length = 0)) (lastBegin acc) = partS (fun s => rowS m s .nil) st true false := by
          rw [show lastBegin acc = false by unfold lastBegin; rw [List.length_eq_zero_iff.1 hN]; rfl, decide_eq_true hN]
        have iz : decide (0 < acc.tops.length) = false := by rw [hN]; rfl
        have HN := Lib.hid hN
        clear hN
        go_wp2_with (go_at_call 17; refine (Tryd.strings_HasPrefix _ _ _).mono ?_; rintro e w' ⟨rfl, rfl⟩; rw [e1])
        refine (part_any m (ih m (by omega)) hcls _ b st c t true false HG.out ⟨s, ov, HS.out, hP, hO⟩ (hE.sp hU h4 hb) h4 h0 h1 g0 g9 ho (by omega) hl2).mono ?_
        rw [← hfb]
        have hend : ¬ (st.left = [] ∨ Lib.hasPrefix st.left [92, 41] = true) := by rw [not_or]; exact ⟨(by rw [HG.out]; simp), hend2⟩
        cases hq : partS (fun s => rowS m s .nil) st (decide (acc.tops.length = 0)) (lastBegin acc) with
        | none =>
          rintro e w1 ⟨rfl, hU1⟩
          go_wp2_with fail
          rw [← HR.out, rowS_none hend hq]
          exact ⟨rfl, rfl, hU.trans hU1⟩
        | some r =>
          obtain ⟨⟨h, k⟩, st1⟩ := r
          rintro e w1 ⟨kv, rfl, hR1, hS1, hU1⟩
          obtain ⟨hM1, hM2, hM3⟩ := partS_mono (fun s f s' h1 h2 he => rowS_mono m s .nil f s' h1 h2 he) g9 hq
          have hM4 := hM3.m2
          have hM5 := hM3.g
          have hM6 := hM3.g2
          have hM7 := hM3.o
          have hS0 : StW _ b st := ⟨s, ov, HS.out, hP, hO⟩
          have hown1 := ownsRow_keep hown (keepNode_st hS0 hU1)
          have hRep1 := RepK.keep (keepNode_st hS0 hU1) _ _ hRep
          have hR1' : Rep (fun j => w.heap.size ≤ j ∧ (Value.slice a acc.tops.length cp).ownBlock ≠ some j) 41 w1 kv k := hR1.mono fun j hj _ => by
            rcases hj with hj | hj
            · exact hj.elim
            · refine ⟨Nat.le_trans hU.size hj, fun he => ?_⟩
              have := (hown.lt j he).2
              omega
          have hU1' := hU.trans hU1
          have hsz1 := Nat.le_trans hU.size hU1.size
          clear hown hRep hR1 hU1 hU hP hO hS0 c0
          have hb2 := hS1.lt
          have hN1 := ndA_one h.kind h.byte h.set h.n h.mn h.mx kv hR1'.one
          have hgx2 : ((w1.alloc (.cells (ndA 0 0 noS 0 0 0 (.slice none 0 0)) 41)).setRow w1.heap.size (ndA h.kind h.byte h.set h.n h.mn h.mx kv)).heap[w1.heap.size]? = some (.cells (ndA h.kind h.byte h.set h.n h.mn h.mx kv) 41 (0, 0)) := setRow_heap _ _ _ _ _ _ (hq_eq (o := (.cells (ndA 0 0 noS 0 0 0 (.slice none 0 0)) 41)) rfl)
          have k0 : ((w1.alloc (.cells (ndA 0 0 noS 0 0 0 (.slice none 0 0)) 41)).setRow w1.heap.size (ndA h.kind h.byte h.set h.n h.mn h.mx kv)).cell? ⟨w1.heap.size, 0, none⟩ = some (.int .i64 h.kind) := by rw [cell_of_heap hgx2]; exact ndA_get0 _ _ _ _ _ _ _
          have hsz2 : ((w1.alloc (.cells (ndA 0 0 noS 0 0 0 (.slice none 0 0)) 41)).setRow w1.heap.size (ndA h.kind h.byte h.set h.n h.mn h.mx kv)).heap.size = w1.heap.size + 1 := by rw [sz_row, sz_alloc]
          have hgl2 := lt_of_heap hgx2
          have hown2 := ownsRow_keep (ownsRow_keep hown1 (Keep.alloc (.cells (ndA 0 0 noS 0 0 0 (.slice none 0 0)) 41))) (w' := ((w1.alloc (.cells (ndA 0 0 noS 0 0 0 (.slice none 0 0)) 41)).setRow w1.heap.size (ndA h.kind h.byte h.set h.n h.mn h.mx kv))) (Keep.setRow _ _ fun j hj _ he => by have := (hown1.lt j hj.2).2; omega)
          have hlow2 : Keep (fun j => (w.heap.size ≤ j ∧ (Value.slice a acc.tops.length cp).ownBlock ≠ some j) ∧ j < w1.heap.size) 41 w1 ((w1.alloc (.cells (ndA 0 0 noS 0 0 0 (.slice none 0 0)) 41)).setRow w1.heap.size (ndA h.kind h.byte h.set h.n h.mn h.mx kv)) :=
            (Keep.alloc _).trans (Keep.setRow _ _ fun j hj _ he => by omega)
          have hRep2 := RepK.keep hlow2 _ _ (RepK.mono (fun j hj hlt => ⟨hj, hlt⟩) _ _ hRep1)
          have hR2 := (hR1'.mono fun j hj hlt => (⟨hj, hlt⟩ : (w.heap.size ≤ j ∧ (Value.slice a acc.tops.length cp).ownBlock ≠ some j) ∧ j < w1.heap.size)).keep hlow2
          have hS2 := (hS1.alloc (.cells (ndA 0 0 noS 0 0 0 (.slice none 0 0)) 41)).setRow (g := w1.heap.size) (hq_eq (o := (.cells (ndA 0 0 noS 0 0 0 (.slice none 0 0)) 41)) rfl) (ndA h.kind h.byte h.set h.n h.mn h.mx kv)
          have hU2 := (hU1'.alloc (.cells (ndA 0 0 noS 0 0 0 (.slice none 0 0)) 41)).setRow w1.heap.size (ndA h.kind h.byte h.set h.n h.mn h.mx kv) fun hh => absurd hh (by omega)
          have hov : ∀ j, (Value.slice a acc.tops.length cp).ownBlock = some j → w.heap.size ≤ j ∧ j < w1.heap.size := hown1.lt
          clear hS1 hown1 hRep1 hR1' hU1' hlow2
          unfold ndH
          by_cases h4k : h.kind = 4 ∨ h.kind = 5
          · have i45 : (h.kind == 4) = true ∨ ((h.kind == 4) = false ∧ (h.kind == 5) = true) := by
              rcases h4k with e | e
              · exact .inl (by rw [e]; rfl)
              · exact .inr ⟨by rw [e]; rfl, by rw [e]; rfl⟩
            have hX := rowS_plain hend hq h4k
            have hM8 : (st1.opn.length : Int) ≤ st1.g := by rw [hM7]; omega
            rcases i45 with i4 | ⟨i4, i5⟩
            all_goals (
              have hownA := ownsRow_keep hown2 (Keep.alloc (.cells (ndA h.kind h.byte h.set h.n h.mn h.mx kv) 41))
              have hlenA := hownA.1
              have hlA : (ndsL acc.tops kvs).length = acc.tops.length * 262 := hownA.1
              have hnewA : ∀ (j : Nat) (u : Value), (ndHL h kv)[j]? = some u → (((w1.alloc (.cells (ndA 0 0 noS 0 0 0 (.slice none 0 0)) 41)).setRow w1.heap.size (ndA h.kind h.byte h.set h.n h.mn h.mx kv)).alloc (.cells (ndA h.kind h.byte h.set h.n h.mn h.mx kv) 41)).cell? ((⟨((w1.alloc (.cells (ndA 0 0 noS 0 0 0 (.slice none 0 0)) 41)).setRow w1.heap.size (ndA h.kind h.byte h.set h.n h.mn h.mx kv)).heap.size, 0, none⟩ : Addr).add j) = some u := news_row (hq_eq (o := (.cells (ndA h.kind h.byte h.set h.n h.mn h.mx kv) 41)) rfl)
              have hbA : w.heap.size ≤ (((w1.alloc (.cells (ndA 0 0 noS 0 0 0 (.slice none 0 0)) 41)).setRow w1.heap.size (ndA h.kind h.byte h.set h.n h.mn h.mx kv)).alloc (.cells (ndA h.kind h.byte h.set h.n h.mn h.mx kv) 41)).heap.size := by rw [sz_alloc]; omega
              have hkA : acc.tops.length + 1 ≤ 200 := by omega
              have h1A : ∀ u ∈ ndHL h kv, u.oneCell' = true := nds_one hR2.one
              have hRepA := RepK.keep (Keep.alloc (.cells (ndA h.kind h.byte h.set h.n h.mn h.mx kv) 41)) _ _ hRep2
              have hRA := hR2.keep (Keep.alloc (.cells (ndA h.kind h.byte h.set h.n h.mn h.mx kv) 41))
              have hSA := hS2.alloc (.cells (ndA h.kind h.byte h.set h.n h.mn h.mx kv) 41)
              have hUA := hU2.alloc (.cells (ndA h.kind h.byte h.set h.n h.mn h.mx kv) 41)
              go_wp2_with (first
                | ((with_reducible apply ldNode); (focus rfl); (focus ((try simp (disch := (first | (simp only [sz_alloc, sz_set, sz_row, sz_drew, sz_drewN] <;> omega) | omega)) only [hq_eq, hq_ne, hq_set, hq_row, hq_drew, hq_drewN]) <;> (first | rfl | assumption))); (focus (first | assumption | exact ndA_size _ _ _ _ _ _ _)))
                | ((with_reducible apply bsNode); (focus rfl); (focus (first | assumption | exact ndA_size _ _ _ _ _ _ _)))
                | ((with_reducible apply stNode); (focus rfl); (focus rfl); (focus ((try simp (disch := (first | (simp only [sz_alloc, sz_set, sz_row, sz_drew, sz_drewN] <;> omega) | omega)) only [hq_eq, hq_ne, hq_set, hq_row, hq_drew, hq_drewN]) <;> (first | rfl | assumption))); (focus (first | assumption | exact ndA_size _ _ _ _ _ _ _)); (focus (first | assumption | exact ndA_size _ _ _ _ _ _ _)); (focus (first | assumption | exact ndA_one _ _ _ _ _ _ _ rfl)))
                | ((refine appendAt w.heap.size (size := 262) (bytes := 320) (ad := ⟨((w1.alloc (.cells (ndA 0 0 noS 0 0 0 (.slice none 0 0)) 41)).setRow w1.heap.size (ndA h.kind h.byte h.set h.n h.mn h.mx kv)).heap.size, 0, none⟩) (m := 1) (c := 1) (n := acc.tops.length) Tryd.underlying29 infoNodeSome.choose_spec.1 infoNodeSome.choose_spec.2.1 infoNodeSome.choose_spec.2.2.1 infoNodeSome.choose_spec.2.2.2 (ndA_size _ _ _ _ _ _ _) (by decide) ?_ hownA (ndHL h kv) ?_ (by rw [ndHL_length]) hnewA h1A (by unfold maxLen; omega) (by omega) hbA ?_); exact rfl; exact rfl; intro v' w' hown' hgr' hat'; obtain ⟨a', c', rfl⟩ := own_slice hown'))
              have hfin := row_step (b := b) (n := n) (m := m) (R := R) (st := st1) (h := h) (k := k) (hX.symm.trans HR.out) (by omega) (by omega) (by omega) (by omega) (by omega) (by omega) (by omega) (by omega) (by omega) hSA hownA (RepK.mono (fun j hj _ => hj.1) _ _ hRepA) (hRA.mono fun j hj _ => hj.1) hUA hb hown' hgr' hat'
              go_roundw
              case rel => exact hfin.1
              case measure => rw [hLL.out, hfin.2.leftLen]; omega)
          · have i4 : (h.kind == 4) = false := by rw [beq_eq_false_iff_ne]; exact fun e => h4k (.inl e)
            have i5 : (h.kind == 5) = false := by rw [beq_eq_false_iff_ne]; exact fun e => h4k (.inr e)
            go_wp2_with (first | ((with_reducible apply ldNode); (focus rfl); (focus ((try simp (disch := (first | (simp only [sz_alloc, sz_set, sz_row, sz_drew, sz_drewN] <;> omega) | omega)) only [hq_eq, hq_ne, hq_set, hq_row, hq_drew, hq_drewN]) <;> (first | rfl | assumption))); (focus (first | assumption | exact ndA_size _ _ _ _ _ _ _))) | ((with_reducible apply stNode); (focus rfl); (focus rfl); (focus ((try simp (disch := (first | (simp only [sz_alloc, sz_set, sz_row, sz_drew, sz_drewN] <;> omega) | omega)) only [hq_eq, hq_ne, hq_set, hq_row, hq_drew, hq_drewN]) <;> (first | rfl | assumption))); (focus (first | assumption | exact ndA_size _ _ _ _ _ _ _)); (focus (first | assumption | exact ndA_size _ _ _ _ _ _ _)); (focus (first | assumption | exact ndA_one _ _ _ _ _ _ _ rfl))))
            generalize ((w1.alloc (.cells (ndA 0 0 noS 0 0 0 (.slice none 0 0)) 41)).setRow w1.heap.size (ndA h.kind h.byte h.set h.n h.mn h.mx kv)) = w2 at *
            have HSZ2 := Lib.hid hsz2
            clear hsz2
            refine (times_any w2 b st1 h kv k (fun j => (w.heap.size ≤ j ∧ (Value.slice a acc.tops.length cp).ownBlock ≠ some j) ∧ j < w1.heap.size) (st1.left.length + 1) hS2 (by omega) hM4 (by omega) (by omega) hR2).mono ?_
            cases ht : timesS (st1.left.length + 1) st1 h k with
            | none =>
              rintro e w3 ⟨rfl, hU3⟩
              go_wp2_with fail
              rw [← HR.out, rowS_tnone hend hq h4k ht]
              exact ⟨rfl, rfl, hU2.trans hU3⟩
            | some r =>
              obtain ⟨⟨h2, k2⟩, st2⟩ := r
              rintro e w3 ⟨kv2, rfl, hR3, hS3, hU3⟩
              have hT := timesS_mono _ hM4 hM6 ht
              have hT1 := hT.m2
              have hT2 := hT.g
              have hT3 := hT.g2
              have hT4 := hT.o
              have hT5 := hT.left
              have hT6 := hT.m
              have hX := rowS_times hend hq h4k ht
              have hM8 : (st2.opn.length : Int) ≤ st2.g := by rw [hT4, hM7]; omega
              have hgx3 := keepNode_st (D := fun _ => True) hS2 hU3 _ _ _ trivial hgx2
              have hown3 := ownsRow_keep hown2 (keepNode_st hS2 hU3)
              have hRep3 := RepK.keep (keepNode_st hS2 hU3) _ _ hRep2
              have hN2 := ndA_one h2.kind h2.byte h2.set h2.n h2.mn h2.mx kv2 hR3.one
              have hsz3 := hU3.size
              have hU3' := hU2.trans hU3
              have hgl3 := lt_of_heap hgx3
              have hown4 := ownsRow_keep hown3 (w' := w3.setRow w1.heap.size (ndA h2.kind h2.byte h2.set h2.n h2.mn h2.mx kv2)) (Keep.setRow _ _ fun j hj _ he => by have := (hov j hj.2).2; omega)
              have hRep4 := RepK.keep (w' := w3.setRow w1.heap.size (ndA h2.kind h2.byte h2.set h2.n h2.mn h2.mx kv2)) (Keep.setRow _ _ fun j hj _ he => by omega) _ _ hRep3
              have hR4 := hR3.keep (w' := w3.setRow w1.heap.size (ndA h2.kind h2.byte h2.set h2.n h2.mn h2.mx kv2)) (Keep.setRow _ _ fun j hj _ he => by omega)
              have hS4 := hS3.setRow hgx3 (ndA h2.kind h2.byte h2.set h2.n h2.mn h2.mx kv2)
              have hU4 := hU3'.setRow w1.heap.size (ndA h2.kind h2.byte h2.set h2.n h2.mn h2.mx kv2) fun hh => absurd hh (by omega)
              have hgx4 : (w3.setRow w1.heap.size (ndA h2.kind h2.byte h2.set h2.n h2.mn h2.mx kv2)).heap[w1.heap.size]? = some (.cells (ndA h2.kind h2.byte h2.set h2.n h2.mn h2.mx kv2) 41 (0, 0)) := setRow_heap _ _ _ _ _ _ hgx3
              have hsz4 : (w3.setRow w1.heap.size (ndA h2.kind h2.byte h2.set h2.n h2.mn h2.mx kv2)).heap.size = w3.heap.size := sz_row _ _ _
              clear hgx2 hown2 hRep2 hR2 hS2 hU2 hU3 hown3 hRep3 hR3 hS3 hU3' k0
              unfold ndH
              have hownA := ownsRow_keep hown4 (Keep.alloc (.cells (ndA h2.kind h2.byte h2.set h2.n h2.mn h2.mx kv2) 41))
              have hlenA := hownA.1
              have hlA : (ndsL acc.tops kvs).length = acc.tops.length * 262 := hownA.1
              have hnewA : ∀ (j : Nat) (u : Value), (ndHL h2 kv2)[j]? = some u → ((w3.setRow w1.heap.size (ndA h2.kind h2.byte h2.set h2.n h2.mn h2.mx kv2)).alloc (.cells (ndA h2.kind h2.byte h2.set h2.n h2.mn h2.mx kv2) 41)).cell? ((⟨(w3.setRow w1.heap.size (ndA h2.kind h2.byte h2.set h2.n h2.mn h2.mx kv2)).heap.size, 0, none⟩ : Addr).add j) = some u := news_row (hq_eq (o := (.cells (ndA h2.kind h2.byte h2.set h2.n h2.mn h2.mx kv2) 41)) rfl)
              have hbA : w.heap.size ≤ ((w3.setRow w1.heap.size (ndA h2.kind h2.byte h2.set h2.n h2.mn h2.mx kv2)).alloc (.cells (ndA h2.kind h2.byte h2.set h2.n h2.mn h2.mx kv2) 41)).heap.size := by rw [sz_alloc]; omega
              have hkA : acc.tops.length + 1 ≤ 200 := by omega
              have h1A : ∀ u ∈ ndHL h2 kv2, u.oneCell' = true := nds_one hR4.one
              have hRepA := RepK.keep (Keep.alloc (.cells (ndA h2.kind h2.byte h2.set h2.n h2.mn h2.mx kv2) 41)) _ _ hRep4
              have hRA := hR4.keep (Keep.alloc (.cells (ndA h2.kind h2.byte h2.set h2.n h2.mn h2.mx kv2) 41))
              have hSA := hS4.alloc (.cells (ndA h2.kind h2.byte h2.set h2.n h2.mn h2.mx kv2) 41)
              have hUA := hU4.alloc (.cells (ndA h2.kind h2.byte h2.set h2.n h2.mn h2.mx kv2) 41)
              go_wp2_with (first
                | ((with_reducible apply ldNode); (focus rfl); (focus ((try simp (disch := (first | (simp only [sz_alloc, sz_set, sz_row, sz_drew, sz_drewN] <;> omega) | omega)) only [hq_eq, hq_ne, hq_set, hq_row, hq_drew, hq_drewN]) <;> (first | rfl | assumption))); (focus (first | assumption | exact ndA_size _ _ _ _ _ _ _)))
                | ((with_reducible apply bsNode); (focus rfl); (focus (first | assumption | exact ndA_size _ _ _ _ _ _ _)))
                | ((with_reducible apply stNode); (focus rfl); (focus rfl); (focus ((try simp (disch := (first | (simp only [sz_alloc, sz_set, sz_row, sz_drew, sz_drewN] <;> omega) | omega)) only [hq_eq, hq_ne, hq_set, hq_row, hq_drew, hq_drewN]) <;> (first | rfl | assumption))); (focus (first | assumption | exact ndA_size _ _ _ _ _ _ _)); (focus (first | assumption | exact ndA_size _ _ _ _ _ _ _)); (focus (first | assumption | exact ndA_one _ _ _ _ _ _ _ rfl)))
                | ((refine appendAt w.heap.size (size := 262) (bytes := 320) (ad := ⟨(w3.setRow w1.heap.size (ndA h2.kind h2.byte h2.set h2.n h2.mn h2.mx kv2)).heap.size, 0, none⟩) (m := 1) (c := 1) (n := acc.tops.length) Tryd.underlying29 infoNodeSome.choose_spec.1 infoNodeSome.choose_spec.2.1 infoNodeSome.choose_spec.2.2.1 infoNodeSome.choose_spec.2.2.2 (ndA_size _ _ _ _ _ _ _) (by decide) ?_ hownA (ndHL h2 kv2) ?_ (by rw [ndHL_length]) hnewA h1A (by unfold maxLen; omega) (by omega) hbA ?_); exact rfl; exact rfl; intro v' w' hown' hgr' hat'; obtain ⟨a', c', rfl⟩ := own_slice hown'))
              have hfin := row_step (b := b) (n := n) (m := m) (R := R) (st := st2) (h := h2) (k := k2) (hX.symm.trans HR.out) (by omega) (by omega) (by omega) (by omega) (by omega) (by omega) (by omega) (by omega) (by omega) hSA hownA (RepK.mono (fun j hj _ => hj.1) _ _ hRepA) (hRA.mono fun j hj _ => (Or.elim hj (fun hj => hj.1) fun hj => ⟨by omega, fun he => by have := (hov j he).2; omega⟩)) hUA hb hown' hgr' hat'
              go_roundw
              case rel => exact hfin.1
              case measure => rw [hLL.out, hfin.2.leftLen]; omega
      · have i0 : ((acc.tops.length : Int) == 0) = false := by rw [beq_eq_false_iff_ne]; omega
        have iz : decide (0 < acc.tops.length) = true := decide_eq_true hN
        obtain ⟨g, rfl⟩ : ∃ g, a = some ⟨g, 0, none⟩ := by
          rcases hown.2 with ⟨_, h2⟩ | ⟨g, cap, cur, hv, _⟩
          · omega
          · cases hv; exact ⟨g, rfl⟩
        obtain ⟨hl, hlast⟩ : ∃ hl, acc.tops.getLast? = some hl := by
          cases h : acc.tops.getLast? with
          | none => rw [List.getLast?_eq_none_iff] at h; rw [h] at hN; cases hN
          | some hl => exact ⟨hl, rfl⟩
        have hcell : wr.cell? ⟨g, (acc.tops.length - 1) * 262, none⟩ = some (.int .i64 hl.kind) := by
          have := hown.cells (g := g) rfl _ _ (last_node _ _ _ (RepK.length _ _ hRep) hlast)
          rw [← this]; congr 1; unfold Addr.add; split <;> simp_all
        have hfb : partS (fun s => rowS m s .nil) st (decide (acc.tops.length = 0)) (lastBegin acc) = partS (fun s => rowS m s .nil) st false (hl.kind == 4) := by
          rw [show lastBegin acc = (hl.kind == 4) by unfold lastBegin; rw [hlast], decide_eq_false (by omega)]
        have hgl := lt_of_cell hcell
        go_wp2_with (go_at_call 17; refine (Tryd.strings_HasPrefix _ _ _).mono ?_; rintro e w' ⟨rfl, rfl⟩; rw [e1])
        refine (part_any m (ih m (by omega)) hcls _ b st c t false (hl.kind == 4) HG.out ⟨s, ov, HS.out, hP, hO⟩ (hE.sp hU h4 hb) h4 h0 h1 g0 g9 ho (by omega) hl2).mono ?_
        rw [← hfb]
        clear hcell
        generalize (some ⟨g, 0, none⟩ : Option Addr) = a at *
        have hend : ¬ (st.left = [] ∨ Lib.hasPrefix st.left [92, 41] = true) := by rw [not_or]; exact ⟨(by rw [HG.out]; simp), hend2⟩
        cases hq : partS (fun s => rowS m s .nil) st (decide (acc.tops.length = 0)) (lastBegin acc) with
        | none =>
          rintro e w1 ⟨rfl, hU1⟩
          go_wp2_with fail
          rw [← HR.out, rowS_none hend hq]
          exact ⟨rfl, rfl, hU.trans hU1⟩
        | some r =>
          obtain ⟨⟨h, k⟩, st1⟩ := r
          rintro e w1 ⟨kv, rfl, hR1, hS1, hU1⟩
          obtain ⟨hM1, hM2, hM3⟩ := partS_mono (fun s f s' h1 h2 he => rowS_mono m s .nil f s' h1 h2 he) g9 hq
          have hM4 := hM3.m2
          have hM5 := hM3.g
          have hM6 := hM3.g2
          have hM7 := hM3.o
          have hS0 : StW _ b st := ⟨s, ov, HS.out, hP, hO⟩
          have hown1 := ownsRow_keep hown (keepNode_st hS0 hU1)
          have hRep1 := RepK.keep (keepNode_st hS0 hU1) _ _ hRep
          have hR1' : Rep (fun j => w.heap.size ≤ j ∧ (Value.slice a acc.tops.length cp).ownBlock ≠ some j) 41 w1 kv k := hR1.mono fun j hj _ => by
            rcases hj with hj | hj
            · exact hj.elim
            · refine ⟨Nat.le_trans hU.size hj, fun he => ?_⟩
              have := (hown.lt j he).2
              omega
          have hU1' := hU.trans hU1
          have hsz1 := Nat.le_trans hU.size hU1.size
          clear hown hRep hR1 hU1 hU hP hO hS0 c0
          have hb2 := hS1.lt
          have hN1 := ndA_one h.kind h.byte h.set h.n h.mn h.mx kv hR1'.one
          have hgx2 : ((w1.alloc (.cells (ndA 0 0 noS 0 0 0 (.slice none 0 0)) 41)).setRow w1.heap.size (ndA h.kind h.byte h.set h.n h.mn h.mx kv)).heap[w1.heap.size]? = some (.cells (ndA h.kind h.byte h.set h.n h.mn h.mx kv) 41 (0, 0)) := setRow_heap _ _ _ _ _ _ (hq_eq (o := (.cells (ndA 0 0 noS 0 0 0 (.slice none 0 0)) 41)) rfl)
          have k0 : ((w1.alloc (.cells (ndA 0 0 noS 0 0 0 (.slice none 0 0)) 41)).setRow w1.heap.size (ndA h.kind h.byte h.set h.n h.mn h.mx kv)).cell? ⟨w1.heap.size, 0, none⟩ = some (.int .i64 h.kind) := by rw [cell_of_heap hgx2]; exact ndA_get0 _ _ _ _ _ _ _
          have hsz2 : ((w1.alloc (.cells (ndA 0 0 noS 0 0 0 (.slice none 0 0)) 41)).setRow w1.heap.size (ndA h.kind h.byte h.set h.n h.mn h.mx kv)).heap.size = w1.heap.size + 1 := by rw [sz_row, sz_alloc]
          have hgl2 := lt_of_heap hgx2
          have hown2 := ownsRow_keep (ownsRow_keep hown1 (Keep.alloc (.cells (ndA 0 0 noS 0 0 0 (.slice none 0 0)) 41))) (w' := ((w1.alloc (.cells (ndA 0 0 noS 0 0 0 (.slice none 0 0)) 41)).setRow w1.heap.size (ndA h.kind h.byte h.set h.n h.mn h.mx kv))) (Keep.setRow _ _ fun j hj _ he => by have := (hown1.lt j hj.2).2; omega)
          have hlow2 : Keep (fun j => (w.heap.size ≤ j ∧ (Value.slice a acc.tops.length cp).ownBlock ≠ some j) ∧ j < w1.heap.size) 41 w1 ((w1.alloc (.cells (ndA 0 0 noS 0 0 0 (.slice none 0 0)) 41)).setRow w1.heap.size (ndA h.kind h.byte h.set h.n h.mn h.mx kv)) :=
            (Keep.alloc _).trans (Keep.setRow _ _ fun j hj _ he => by omega)
          have hRep2 := RepK.keep hlow2 _ _ (RepK.mono (fun j hj hlt => ⟨hj, hlt⟩) _ _ hRep1)
          have hR2 := (hR1'.mono fun j hj hlt => (⟨hj, hlt⟩ : (w.heap.size ≤ j ∧ (Value.slice a acc.tops.length cp).ownBlock ≠ some j) ∧ j < w1.heap.size)).keep hlow2
          have hS2 := (hS1.alloc (.cells (ndA 0 0 noS 0 0 0 (.slice none 0 0)) 41)).setRow (g := w1.heap.size) (hq_eq (o := (.cells (ndA 0 0 noS 0 0 0 (.slice none 0 0)) 41)) rfl) (ndA h.kind h.byte h.set h.n h.mn h.mx kv)
          have hU2 := (hU1'.alloc (.cells (ndA 0 0 noS 0 0 0 (.slice none 0 0)) 41)).setRow w1.heap.size (ndA h.kind h.byte h.set h.n h.mn h.mx kv) fun hh => absurd hh (by omega)
          have hov : ∀ j, (Value.slice a acc.tops.length cp).ownBlock = some j → w.heap.size ≤ j ∧ j < w1.heap.size := hown1.lt
          clear hS1 hown1 hRep1 hR1' hU1' hlow2
          unfold ndH
          by_cases h4k : h.kind = 4 ∨ h.kind = 5
          · have i45 : (h.kind == 4) = true ∨ ((h.kind == 4) = false ∧ (h.kind == 5) = true) := by
              rcases h4k with e | e
              · exact .inl (by rw [e]; rfl)
              · exact .inr ⟨by rw [e]; rfl, by rw [e]; rfl⟩
            have hX := rowS_plain hend hq h4k
            have hM8 : (st1.opn.length : Int) ≤ st1.g := by rw [hM7]; omega
            rcases i45 with i4 | ⟨i4, i5⟩
            all_goals (
              have hownA := ownsRow_keep hown2 (Keep.alloc (.cells (ndA h.kind h.byte h.set h.n h.mn h.mx kv) 41))
              have hlenA := hownA.1
              have hlA : (ndsL acc.tops kvs).length = acc.tops.length * 262 := hownA.1
              have hnewA : ∀ (j : Nat) (u : Value), (ndHL h kv)[j]? = some u → (((w1.alloc (.cells (ndA 0 0 noS 0 0 0 (.slice none 0 0)) 41)).setRow w1.heap.size (ndA h.kind h.byte h.set h.n h.mn h.mx kv)).alloc (.cells (ndA h.kind h.byte h.set h.n h.mn h.mx kv) 41)).cell? ((⟨((w1.alloc (.cells (ndA 0 0 noS 0 0 0 (.slice none 0 0)) 41)).setRow w1.heap.size (ndA h.kind h.byte h.set h.n h.mn h.mx kv)).heap.size, 0, none⟩ : Addr).add j) = some u := news_row (hq_eq (o := (.cells (ndA h.kind h.byte h.set h.n h.mn h.mx kv) 41)) rfl)
              have hbA : w.heap.size ≤ (((w1.alloc (.cells (ndA 0 0 noS 0 0 0 (.slice none 0 0)) 41)).setRow w1.heap.size (ndA h.kind h.byte h.set h.n h.mn h.mx kv)).alloc (.cells (ndA h.kind h.byte h.set h.n h.mn h.mx kv) 41)).heap.size := by rw [sz_alloc]; omega
              have hkA : acc.tops.length + 1 ≤ 200 := by omega
              have h1A : ∀ u ∈ ndHL h kv, u.oneCell' = true := nds_one hR2.one
              have hRepA := RepK.keep (Keep.alloc (.cells (ndA h.kind h.byte h.set h.n h.mn h.mx kv) 41)) _ _ hRep2
              have hRA := hR2.keep (Keep.alloc (.cells (ndA h.kind h.byte h.set h.n h.mn h.mx kv) 41))
              have hSA := hS2.alloc (.cells (ndA h.kind h.byte h.set h.n h.mn h.mx kv) 41)
              have hUA := hU2.alloc (.cells (ndA h.kind h.byte h.set h.n h.mn h.mx kv) 41)
              go_wp2_with (first
                | ((with_reducible apply ldNode); (focus rfl); (focus ((try simp (disch := (first | (simp only [sz_alloc, sz_set, sz_row, sz_drew, sz_drewN] <;> omega) | omega)) only [hq_eq, hq_ne, hq_set, hq_row, hq_drew, hq_drewN]) <;> (first | rfl | assumption))); (focus (first | assumption | exact ndA_size _ _ _ _ _ _ _)))
                | ((with_reducible apply bsNode); (focus rfl); (focus (first | assumption | exact ndA_size _ _ _ _ _ _ _)))
                | ((with_reducible apply stNode); (focus rfl); (focus rfl); (focus ((try simp (disch := (first | (simp only [sz_alloc, sz_set, sz_row, sz_drew, sz_drewN] <;> omega) | omega)) only [hq_eq, hq_ne, hq_set, hq_row, hq_drew, hq_drewN]) <;> (first | rfl | assumption))); (focus (first | assumption | exact ndA_size _ _ _ _ _ _ _)); (focus (first | assumption | exact ndA_size _ _ _ _ _ _ _)); (focus (first | assumption | exact ndA_one _ _ _ _ _ _ _ rfl)))
                | ((refine appendAt w.heap.size (size := 262) (bytes := 320) (ad := ⟨((w1.alloc (.cells (ndA 0 0 noS 0 0 0 (.slice none 0 0)) 41)).setRow w1.heap.size (ndA h.kind h.byte h.set h.n h.mn h.mx kv)).heap.size, 0, none⟩) (m := 1) (c := 1) (n := acc.tops.length) Tryd.underlying29 infoNodeSome.choose_spec.1 infoNodeSome.choose_spec.2.1 infoNodeSome.choose_spec.2.2.1 infoNodeSome.choose_spec.2.2.2 (ndA_size _ _ _ _ _ _ _) (by decide) ?_ hownA (ndHL h kv) ?_ (by rw [ndHL_length]) hnewA h1A (by unfold maxLen; omega) (by omega) hbA ?_); exact rfl; exact rfl; intro v' w' hown' hgr' hat'; obtain ⟨a', c', rfl⟩ := own_slice hown'))
              have hfin := row_step (b := b) (n := n) (m := m) (R := R) (st := st1) (h := h) (k := k) (hX.symm.trans HR.out) (by omega) (by omega) (by omega) (by omega) (by omega) (by omega) (by omega) (by omega) (by omega) hSA hownA (RepK.mono (fun j hj _ => hj.1) _ _ hRepA) (hRA.mono fun j hj _ => hj.1) hUA hb hown' hgr' hat'
              go_roundw
              case rel => exact hfin.1
              case measure => rw [hLL.out, hfin.2.leftLen]; omega)
          · have i4 : (h.kind == 4) = false := by rw [beq_eq_false_iff_ne]; exact fun e => h4k (.inl e)
            have i5 : (h.kind == 5) = false := by rw [beq_eq_false_iff_ne]; exact fun e => h4k (.inr e)
            go_wp2_with (first | ((with_reducible apply ldNode); (focus rfl); (focus ((try simp (disch := (first | (simp only [sz_alloc, sz_set, sz_row, sz_drew, sz_drewN] <;> omega) | omega)) only [hq_eq, hq_ne, hq_set, hq_row, hq_drew, hq_drewN]) <;> (first | rfl | assumption))); (focus (first | assumption | exact ndA_size _ _ _ _ _ _ _))) | ((with_reducible apply stNode); (focus rfl); (focus rfl); (focus ((try simp (disch := (first | (simp only [sz_alloc, sz_set, sz_row, sz_drew, sz_drewN] <;> omega) | omega)) only [hq_eq, hq_ne, hq_set, hq_row, hq_drew, hq_drewN]) <;> (first | rfl | assumption))); (focus (first | assumption | exact ndA_size _ _ _ _ _ _ _)); (focus (first | assumption | exact ndA_size _ _ _ _ _ _ _)); (focus (first | assumption | exact ndA_one _ _ _ _ _ _ _ rfl))))
            generalize ((w1.alloc (.cells (ndA 0 0 noS 0 0 0 (.slice none 0 0)) 41)).setRow w1.heap.size (ndA h.kind h.byte h.set h.n h.mn h.mx kv)) = w2 at *
            have HSZ2 := Lib.hid hsz2
            clear hsz2
            refine (times_any w2 b st1 h kv k (fun j => (w.heap.size ≤ j ∧ (Value.slice a acc.tops.length cp).ownBlock ≠ some j) ∧ j < w1.heap.size) (st1.left.length + 1) hS2 (by omega) hM4 (by omega) (by omega) hR2).mono ?_
            cases ht : timesS (st1.left.length + 1) st1 h k with
            | none =>
              rintro e w3 ⟨rfl, hU3⟩
              go_wp2_with fail
              rw [← HR.out, rowS_tnone hend hq h4k ht]
              exact ⟨rfl, rfl, hU2.trans hU3⟩
            | some r =>
              obtain ⟨⟨h2, k2⟩, st2⟩ := r
              rintro e w3 ⟨kv2, rfl, hR3, hS3, hU3⟩
              have hT := timesS_mono _ hM4 hM6 ht
              have hT1 := hT.m2
              have hT2 := hT.g
              have hT3 := hT.g2
              have hT4 := hT.o
              have hT5 := hT.left
              have hT6 := hT.m
              have hX := rowS_times hend hq h4k ht
              have hM8 : (st2.opn.length : Int) ≤ st2.g := by rw [hT4, hM7]; omega
              have hgx3 := keepNode_st (D := fun _ => True) hS2 hU3 _ _ _ trivial hgx2
              have hown3 := ownsRow_keep hown2 (keepNode_st hS2 hU3)
              have hRep3 := RepK.keep (keepNode_st hS2 hU3) _ _ hRep2
              have hN2 := ndA_one h2.kind h2.byte h2.set h2.n h2.mn h2.mx kv2 hR3.one
              have hsz3 := hU3.size
              have hU3' := hU2.trans hU3
              have hgl3 := lt_of_heap hgx3
              have hown4 := ownsRow_keep hown3 (w' := w3.setRow w1.heap.size (ndA h2.kind h2.byte h2.set h2.n h2.mn h2.mx kv2)) (Keep.setRow _ _ fun j hj _ he => by have := (hov j hj.2).2; omega)
              have hRep4 := RepK.keep (w' := w3.setRow w1.heap.size (ndA h2.kind h2.byte h2.set h2.n h2.mn h2.mx kv2)) (Keep.setRow _ _ fun j hj _ he => by omega) _ _ hRep3
              have hR4 := hR3.keep (w' := w3.setRow w1.heap.size (ndA h2.kind h2.byte h2.set h2.n h2.mn h2.mx kv2)) (Keep.setRow _ _ fun j hj _ he => by omega)
              have hS4 := hS3.setRow hgx3 (ndA h2.kind h2.byte h2.set h2.n h2.mn h2.mx kv2)
              have hU4 := hU3'.setRow w1.heap.size (ndA h2.kind h2.byte h2.set h2.n h2.mn h2.mx kv2) fun hh => absurd hh (by omega)
              have hgx4 : (w3.setRow w1.heap.size (ndA h2.kind h2.byte h2.set h2.n h2.mn h2.mx kv2)).heap[w1.heap.size]? = some (.cells (ndA h2.kind h2.byte h2.set h2.n h2.mn h2.mx kv2) 41 (0, 0)) := setRow_heap _ _ _ _ _ _ hgx3
              have hsz4 : (w3.setRow w1.heap.size (ndA h2.kind h2.byte h2.set h2.n h2.mn h2.mx kv2)).heap.size = w3.heap.size := sz_row _ _ _
              clear hgx2 hown2 hRep2 hR2 hS2 hU2 hU3 hown3 hRep3 hR3 hS3 hU3' k0
              unfold ndH
              have hownA := ownsRow_keep hown4 (Keep.alloc (.cells (ndA h2.kind h2.byte h2.set h2.n h2.mn h2.mx kv2) 41))
              have hlenA := hownA.1
              have hlA : (ndsL acc.tops kvs).length = acc.tops.length * 262 := hownA.1
              have hnewA : ∀ (j : Nat) (u : Value), (ndHL h2 kv2)[j]? = some u → ((w3.setRow w1.heap.size (ndA h2.kind h2.byte h2.set h2.n h2.mn h2.mx kv2)).alloc (.cells (ndA h2.kind h2.byte h2.set h2.n h2.mn h2.mx kv2) 41)).cell? ((⟨(w3.setRow w1.heap.size (ndA h2.kind h2.byte h2.set h2.n h2.mn h2.mx kv2)).heap.size, 0, none⟩ : Addr).add j) = some u := news_row (hq_eq (o := (.cells (ndA h2.kind h2.byte h2.set h2.n h2.mn h2.mx kv2) 41)) rfl)
              have hbA : w.heap.size ≤ ((w3.setRow w1.heap.size (ndA h2.kind h2.byte h2.set h2.n h2.mn h2.mx kv2)).alloc (.cells (ndA h2.kind h2.byte h2.set h2.n h2.mn h2.mx kv2) 41)).heap.size := by rw [sz_alloc]; omega
              have hkA : acc.tops.length + 1 ≤ 200 := by omega
              have h1A : ∀ u ∈ ndHL h2 kv2, u.oneCell' = true := nds_one hR4.one
              have hRepA := RepK.keep (Keep.alloc (.cells (ndA h2.kind h2.byte h2.set h2.n h2.mn h2.mx kv2) 41)) _ _ hRep4
              have hRA := hR4.keep (Keep.alloc (.cells (ndA h2.kind h2.byte h2.set h2.n h2.mn h2.mx kv2) 41))
              have hSA := hS4.alloc (.cells (ndA h2.kind h2.byte h2.set h2.n h2.mn h2.mx kv2) 41)
              have hUA := hU4.alloc (.cells (ndA h2.kind h2.byte h2.set h2.n h2.mn h2.mx kv2) 41)
              go_wp2_with (first
                | ((with_reducible apply ldNode); (focus rfl); (focus ((try simp (disch := (first | (simp only [sz_alloc, sz_set, sz_row, sz_drew, sz_drewN] <;> omega) | omega)) only [hq_eq, hq_ne, hq_set, hq_row, hq_drew, hq_drewN]) <;> (first | rfl | assumption))); (focus (first | assumption | exact ndA_size _ _ _ _ _ _ _)))
                | ((with_reducible apply bsNode); (focus rfl); (focus (first | assumption | exact ndA_size _ _ _ _ _ _ _)))
                | ((with_reducible apply stNode); (focus rfl); (focus rfl); (focus ((try simp (disch := (first | (simp only [sz_alloc, sz_set, sz_row, sz_drew, sz_drewN] <;> omega) | omega)) only [hq_eq, hq_ne, hq_set, hq_row, hq_drew, hq_drewN]) <;> (first | rfl | assumption))); (focus (first | assumption | exact ndA_size _ _ _ _ _ _ _)); (focus (first | assumption | exact ndA_size _ _ _ _ _ _ _)); (focus (first | assumption | exact ndA_one _ _ _ _ _ _ _ rfl)))
                | ((refine appendAt w.heap.size (size := 262) (bytes := 320) (ad := ⟨(w3.setRow w1.heap.size (ndA h2.kind h2.byte h2.set h2.n h2.mn h2.mx kv2)).heap.size, 0, none⟩) (m := 1) (c := 1) (n := acc.tops.length) Tryd.underlying29 infoNodeSome.choose_spec.1 infoNodeSome.choose_spec.2.1 infoNodeSome.choose_spec.2.2.1 infoNodeSome.choose_spec.2.2.2 (ndA_size _ _ _ _ _ _ _) (by decide) ?_ hownA (ndHL h2 kv2) ?_ (by rw [ndHL_length]) hnewA h1A (by unfold maxLen; omega) (by omega) hbA ?_); exact rfl; exact rfl; intro v' w' hown' hgr' hat'; obtain ⟨a', c', rfl⟩ := own_slice hown'))
              have hfin := row_step (b := b) (n := n) (m := m) (R := R) (st := st2) (h := h2) (k := k2) (hX.symm.trans HR.out) (by omega) (by omega) (by omega) (by omega) (by omega) (by omega) (by omega) (by omega) (by omega) hSA hownA (RepK.mono (fun j hj _ => hj.1) _ _ hRepA) (hRA.mono fun j hj _ => (Or.elim hj (fun hj => hj.1) fun hj => ⟨by omega, fun he => by have := (hov j he).2; omega⟩)) hUA hb hown' hgr' hat'
              go_roundw
              case rel => exact hfin.1
              case measure => rw [hLL.out, hfin.2.leftLen]; omega

theorem row_said (hcls : ClsSaid) : ∀ n, RowSaid n := fun n => Nat.strongRecOn n fun n ih => row_any n ih hcls
end Go.Proofs.YtkbfckigndkkkaaDoor
