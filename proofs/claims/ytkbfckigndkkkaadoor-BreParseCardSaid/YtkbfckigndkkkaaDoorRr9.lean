/-
  Walks: the document's reader: a row.
-/
import Derived.Test.YtkbfckigndkkkaaDoorRr8
import Derived.Test.YtkbfckigndkkkaaDoorBw7
namespace Go.Proofs.YtkbfckigndkkkaaDoor
set_option linter.unusedSimpArgs false
set_option linter.unusedVariables false
open Go Go.RowKit

theorem rRow_bad (s : ByteArray) (m : Nat) (st : RSt) (acc : Fo) (begun : Bool) (h : st.bad = true) : rRow s m st acc begun = (acc, st) := by
  cases m with
  | zero => rfl
  | succ m => rw [rRow, if_neg (by rw [h]; simp)]
structure RRRel (b : Nat) (s : ByteArray) (w : World) (n : Nat) (R : Fo × RSt) (v u : Value) (wr : World) : Prop where
  ex : ∃ (m : Nat) (st : RSt) (acc : Fo) (kvs : List Value) (begun : Bool), ((st.bad = true ∧ R = (acc, st)) ∨ (st.bad = false ∧ rRow s m st acc begun = R ∧ m ≤ n ∧ s.size - st.pl < m)) ∧ RInv s st ∧ acc.tops.length ≤ st.pl + 1 ∧ (st.bad = false → acc.tops.length ≤ st.pl) ∧
    RW wr b s st ∧ wr.ownsRow w.heap.size 60 262 v acc.tops.length (ndsL acc.tops kvs) ∧ u = .bool begun ∧ RepK (fun j => w.heap.size ≤ j ∧ v.ownBlock ≠ some j) 60 wr acc kvs ∧ Upd (atB b) w wr
theorem rnews_row {w : World} {g : Nat} {h : Hd} {kv : Value} {fr : Nat × Nat} (hg : w.heap[g]? = some (.cells (ndH h kv) 60 fr)) :
    ∀ (j : Nat) (u : Value), (ndHL h kv)[j]? = some u → w.cell? ((⟨g, 0, none⟩ : Addr).add j) = some u := by
  intro j u hj
  have e : (⟨g, 0, none⟩ : Addr).add j = ⟨g, j, none⟩ := by cases j <;> simp [Addr.add]
  rw [e, cell_of_heap hg, ← hj, ← ndH_toList, Array.getElem?_toList]
/-- One more part in the row. -/
theorem rrow_step {b n m : Nat} {s : ByteArray} {w wa w' : World} {R : Fo × RSt} {v v' kv : Value} {acc k : Fo} {h : Hd} {kvs : List Value} {st : RSt} {begun : Bool}
    (hX : rRow s m st (acc.snoc h k) begun = R) (hmn : m ≤ n) (hl : st.bad = false → s.size - st.pl < m) (hI : RInv s st) (hk : acc.tops.length ≤ st.pl) (hk2 : st.bad = false → acc.tops.length + 1 ≤ st.pl)
    (hS : RW wa b s st) (hown : wa.ownsRow w.heap.size 60 262 v acc.tops.length (ndsL acc.tops kvs)) (hRep : RepK (fun j => w.heap.size ≤ j ∧ v.ownBlock ≠ some j) 60 wa acc kvs)
    (hR : Rep (fun j => w.heap.size ≤ j ∧ v.ownBlock ≠ some j) 60 wa kv k) (hU : Upd (atB b) w wa)
    (hown' : w'.ownsRow w.heap.size 60 262 v' (acc.tops.length + 1) (ndsL acc.tops kvs ++ ndHL h kv)) (hgr : wa.grownBy w' v.ownBlock) (hat : v'.ownBlock = v.ownBlock ∨ ∃ k, v'.ownBlock = some k ∧ wa.heap.size ≤ k) :
    RRRel b s w n R v' (.bool begun) w' ∧ RW w' b s st := by
  have hlen := RepK.length _ _ hRep
  have hkeep : Keep (fun j => (w.heap.size ≤ j ∧ v.ownBlock ≠ some j) ∧ j < wa.heap.size) 60 wa w' := fun j cs fr hj hh => grown_heap hgr hh hj.1.2
  have hD : ∀ j, (w.heap.size ≤ j ∧ v.ownBlock ≠ some j) → j < wa.heap.size → (w.heap.size ≤ j ∧ v'.ownBlock ≠ some j) := by
    intro j hj hlt
    refine ⟨hj.1, ?_⟩
    rcases hat with e | ⟨k, e, hk⟩
    · rw [e]; exact hj.2
    · rw [e]; intro he; cases he; omega
  have hlow : ∀ j, v.ownBlock = some j → w.heap.size ≤ j := fun j hj => (hown.lt j hj).1
  have hS' : RW w' b s st := grown_heap hgr hS (own_ne hown hS (by decide))
  refine ⟨⟨m, st, acc.snoc h k, kvs ++ [kv], begun, ?_, hI, by rw [Fo.tops_snoc, List.length_append, List.length_singleton]; omega, fun hb => by rw [Fo.tops_snoc, List.length_append, List.length_singleton]; exact hk2 hb, hS', ?_, rfl, ?_, ?_⟩, hS'⟩
  · cases hb : st.bad with
    | true => exact .inl ⟨rfl, by rw [← hX, rRow_bad _ _ _ _ _ hb]⟩
    | false => exact .inr ⟨rfl, hX, hmn, hl hb⟩
  · rw [Fo.tops_snoc, List.length_append, List.length_singleton, ndsL_snoc _ _ _ _ hlen]; exact hown'
  · exact RepK.snoc (((hR.mono fun j hj hlt => ⟨hj, hlt⟩).keep hkeep).mono fun j hj _ => hD j hj.1 hj.2) _ _ (RepK.mono (fun j hj _ => hD j hj.1 hj.2) _ _ (RepK.keep hkeep _ _ (RepK.mono (fun j hj hlt => ⟨hj, hlt⟩) _ _ hRep)))
  · exact hU.grown hgr fun j hj hlt => absurd (hlow j hj) (by omega)
theorem RepK.drew {D : Nat → Prop} {e : TypeId} {w : World} {fo : Fo} {kvs : List Value} (h : RepK D e w fo kvs) : RepK D e w.drew fo kvs := RepK.keep (show Keep D e w w.drew from fun _ _ _ _ h => h) _ _ h
theorem ownsRow_drew {w : World} {base n size : Nat} {e : TypeId} {v : Value} {xs : List Value} (h : w.ownsRow base e size v n xs) : w.drew.ownsRow base e size v n xs := ownsRow_keep (w' := w.drew) h fun _ _ _ _ h => h
set_option maxRecDepth 100000 in set_option maxHeartbeats 40000000 in
theorem rrow_any (s : ByteArray) (hsz : s.size ≤ 1000) (n : Nat) (ih : ∀ m, m < n → RRowSaid s m) : RRowSaid s n := by
  intro w b st hP hI hf
  have hRR : RRRel b s w n (rRow s n st .nil false) (.slice none 0 0) (.bool false) w := by
    refine ⟨n, st, .nil, [], false, ?_, hI, by simp [Fo.tops], fun _ => by simp [Fo.tops], hP, World.ownsRow_nil _ _ _ _, rfl, rfl, Upd.refl _ _⟩
    cases hb : st.bad with
    | true => exact .inl ⟨rfl, rRow_bad _ _ _ _ _ hb⟩
    | false => exact .inr ⟨rfl, rfl, Nat.le_refl _, hf⟩
  generalize rRow s n st .nil false = R at *
  have hb : b < w.heap.size := hP.lt
  clear hP hI hf st
  go_enter Tryd.func15, Tryd.ntmps15
  go_wp2_with fail
  go_loopw [3, 4] (fun v u wr => RRRel b s w n R v u wr) (fun _ _ wr => rM s b wr)
  case atStart => exact hRR
  case round =>
    clear hRR
    obtain ⟨m, st, acc, kvs, begun, hc, hI, hk, hk2, hP, hown, rfl, hRep, hU⟩ := hrel
    obtain ⟨a, cp, rfl⟩ := own_slice hown
    have HM := Lib.hid hP.rM
    have hbr := hP.lt
    have c0 := hP.drew.c0
    have c1 := hP.drew.c1
    have c2 := hP.drew.c2
    have c6 := hP.drew.c6
    have hbd := hP.drew.lt
    have d2 := hP.drew.drew.c2
    have hbdd := hP.drew.drew.lt
    have is1 : ∀ w', RW w' b s st → Calls Tryd.prog 20 #[.pointer (some ⟨b, 0, none⟩), .string ⟨#[92, 41]⟩] w' fun e w2 => e = .returned (.bool (rIs s st [92, 41])) ∧ w2 = w'.drew := fun w' h => ris_any w' b s ⟨#[92, 41]⟩ st h hI.pl hsz (by decide)
    have IS := Lib.hid is1
    clear is1
    have hFin : R = (acc, st) → ∀ w', RW w' b s st → (w'.ownsRow w.heap.size 60 262 (.slice a acc.tops.length cp) acc.tops.length (ndsL acc.tops kvs)) → RepK (fun j => w.heap.size ≤ j ∧ (Value.slice a acc.tops.length cp).ownBlock ≠ some j) 60 w' acc kvs → Upd (atB b) w w' →
        ∃ v, Ending.returned (.slice a acc.tops.length cp) = .returned v ∧ Rep (fun j => w.heap.size ≤ j) 60 w' v R.1 ∧ RW w' b s R.2 ∧ Upd (atB b) w w' := by
      rintro rfl w' hP hown hRep hU
      exact ⟨_, rfl, ⟨kvs, RowAt.ofOwned hown (RepK.length _ _ hRep) fun k hk => (hown.lt k hk).1, RepK.mono (fun k hk _ => hk.1) _ _ hRep⟩, hP, hU⟩
    have HF := Lib.hid hFin
    clear hFin
    rcases hc with ⟨hbad, hR⟩ | ⟨hbad, hR, hmn, hf⟩
    · rw [hbad] at c6
      have HB := Lib.hid hbad
      have HR := Lib.hid hR
      clear hbad hR
      go_wp2_with fail
      go_region
      go_wp2_with fail
      go_ret
      exact HF.out HR.out _ hP.drew (ownsRow_drew hown) hRep.drew hU.drew
    · rw [hbad] at c6
      have HB := Lib.hid hbad
      obtain ⟨m, rfl⟩ : ∃ m', m = m' + 1 := ⟨m - 1, by omega⟩
      have HR := Lib.hid hR
      clear hbad hR
      by_cases hlt : st.pl < s.size
      · have hd1 : decide ((st.pl : Int) < (s.size : Int)) = true := decide_eq_true (by omega)
        have hd1n : decide (st.pl < s.size) = true := decide_eq_true hlt
        obtain ⟨I, hi⟩ : ∃ I, rIs s st [92, 41] = I := ⟨_, rfl⟩
        obtain ⟨L, HL1⟩ : ∃ L, decide ((st.g : Int) < 900) = L := ⟨_, rfl⟩
        have HL2 : decide (st.g < 900) = L := by rw [← HL1, decide_eq_decide]; omega
        have is2 := IS.out
        rw [hi] at is2
        have IS := Lib.hid is2
        clear is2
        go_upto_region 3 with fail
        go_cut [34] from 6 to 65 (fun v34 wx => v34 = .bool (!I && L) ∧ RW wx b s st ∧ Below wr.heap.size wr wx)
        case first =>
          refine wp_region_vals (by kernel_rfl) (fun i v w2 => match i with | 0 => v = .pointer (some ⟨b, 0, none⟩) | 1 => v = .pointer (some ⟨b, 0, none⟩) | 2 => v = .pointer (some ⟨b, 1005, none⟩) | 3 => v = .bool false | 4 => v = .bool true | 5 => v = .bool true | 6 => v = .pointer (some ⟨b, 0, none⟩) | 7 => v = .pointer (some ⟨b, 0, none⟩) | 8 => v = .pointer (some ⟨b, 1, none⟩) | 9 => v = .int .i64 (st.pl : Int) | 10 => v = .pointer (some ⟨b, 0, none⟩) | 11 => v = .pointer (some ⟨b, 0, none⟩) | 12 => v = .pointer (some ⟨b, 0, none⟩) | 13 => v = .string s | 14 => v = .int .i64 (s.size : Int) | 15 => v = .bool true | 16 => v = .bool true | 17 => v = .bool true | 18 => v = .pointer (some ⟨b, 0, none⟩) | 19 => v = .bool I | 20 => v = .bool !I | 21 => v = .bool !I | 22 => v = .bool !I | 23 => I = false → v = .pointer (some ⟨b, 0, none⟩) | 24 => I = false → v = .pointer (some ⟨b, 0, none⟩) | 25 => I = false → v = .pointer (some ⟨b, 2, none⟩) | 26 => I = false → v = .int .i64 (st.g : Int) | 27 => I = false → v = .bool L | 28 => v = .bool (!I && L) | _ => True)
            (fun w2 => RW w2 b s st) (by kernel_rfl) (by kernel_rfl) (by kernel_rfl) ?_ hP.drew (fun w1 w2 h1 h2 => h1.below h2) ?_ ?_
          · intro i v w1 w2 h hB
            match i, h with
            | 0, h => exact h
            | 1, h => exact h
            | 2, h => exact h
            | 3, h => exact h
            | 4, h => exact h
            | 5, h => exact h
            | 6, h => exact h
            | 7, h => exact h
            | 8, h => exact h
            | 9, h => exact h
            | 10, h => exact h
            | 11, h => exact h
            | 12, h => exact h
            | 13, h => exact h
            | 14, h => exact h
            | 15, h => exact h
            | 16, h => exact h
            | 17, h => exact h
            | 18, h => exact h
            | 19, h => exact h
            | 20, h => exact h
            | 21, h => exact h
            | 22, h => exact h
            | 23, h => exact h
            | 24, h => exact h
            | 25, h => exact h
            | 26, h => exact h
            | 27, h => exact h
            | 28, h => exact h
            | n + 29, h => trivial
          · intro i o ho
            match i, ho with
            | 0, ho =>
              obtain rfl := Option.some.inj ho
              clear ho
              intro vals w1 a hg hF ha
              have e0 : a.eval (.tmp 0) = .pointer (some ⟨b, 0, none⟩) := (ha (.tmp 0) (by simp [Op.operands, Call.operands])).trans rfl
              refine (if_pos rfl).mpr (.inl ?_)
              refine wp_value (v := .pointer (some ⟨b, 0, none⟩)) ?_ ⟨_, rfl, rfl, Below.refl _ _⟩
              have hc : ∀ v, a.eval (.const v) = v := fun _ => rfl
              have hfn : ∀ f, a.eval (.func f) = .func (.func f) #[] #[] := fun _ => rfl
              clear ha hF
              generalize a.eval = ρ at *
              simp [execOp, go_sem, e0, hc, hfn]
            | 1, ho =>
              obtain rfl := Option.some.inj ho
              clear ho
              intro vals w1 a hg hF ha
              have f0 : vals 0 = .pointer (some ⟨b, 0, none⟩) := hF 0 (mem_ancs (by kernel_rfl))
              have e0 : a.eval (.tmp 6) = .pointer (some ⟨b, 0, none⟩) := ((ha (.tmp 6) (by simp [Op.operands, Call.operands])).trans rfl).trans f0
              refine (if_pos rfl).mpr (.inl ?_)
              refine wp_value (v := .pointer (some ⟨b, 0, none⟩)) ?_ ⟨_, rfl, rfl, Below.refl _ _⟩
              have hc : ∀ v, a.eval (.const v) = v := fun _ => rfl
              have hfn : ∀ f, a.eval (.func f) = .func (.func f) #[] #[] := fun _ => rfl
              clear ha hF
              generalize a.eval = ρ at *
              simp [execOp, go_sem, e0, hc, hfn]
            | 2, ho =>
              obtain rfl := Option.some.inj ho
              clear ho
              intro vals w1 a hg hF ha
              have f0 : vals 1 = .pointer (some ⟨b, 0, none⟩) := hF 1 (mem_ancs (by kernel_rfl))
              have e0 : a.eval (.tmp 7) = .pointer (some ⟨b, 0, none⟩) := ((ha (.tmp 7) (by simp [Op.operands, Call.operands])).trans rfl).trans f0
              refine (if_pos rfl).mpr (.inl ?_)
              refine wp_value (v := .pointer (some ⟨b, 1005, none⟩)) ?_ ⟨_, rfl, rfl, Below.refl _ _⟩
              have hc : ∀ v, a.eval (.const v) = v := fun _ => rfl
              have hfn : ∀ f, a.eval (.func f) = .func (.func f) #[] #[] := fun _ => rfl
              clear ha hF
              generalize a.eval = ρ at *
              simp [execOp, go_sem, e0, hc, hfn]
            | 3, ho =>
              obtain rfl := Option.some.inj ho
              clear ho
              intro vals w1 a hg hF ha
              have f0 : vals 2 = .pointer (some ⟨b, 1005, none⟩) := hF 2 (mem_ancs (by kernel_rfl))
              have e0 : a.eval (.tmp 8) = .pointer (some ⟨b, 1005, none⟩) := ((ha (.tmp 8) (by simp [Op.operands, Call.operands])).trans rfl).trans f0
              have c6 : w1.cell? ⟨b, 1005, none⟩ = some (.bool false) := by rw [hg.c6, HB.out]
              have hbl := hg.lt
              refine (if_pos rfl).mpr (.inl ?_)
              refine wp_value (v := .bool false) ?_ ⟨_, rfl, rfl, Below.refl _ _⟩
              have hc : ∀ v, a.eval (.const v) = v := fun _ => rfl
              have hfn : ∀ f, a.eval (.func f) = .func (.func f) #[] #[] := fun _ => rfl
              clear ha hF
              generalize a.eval = ρ at *
              simp [execOp, go_sem, e0, c6, hbl, hc, hfn]
            | 4, ho =>
              obtain rfl := Option.some.inj ho
              clear ho
              intro vals w1 a hg hF ha
              have f0 : vals 3 = .bool false := hF 3 (mem_ancs (by kernel_rfl))
              have e0 : a.eval (.tmp 9) = .bool false := ((ha (.tmp 9) (by simp [Op.operands, Call.operands])).trans rfl).trans f0
              refine (if_pos rfl).mpr (.inl ?_)
              refine wp_value (v := .bool true) ?_ ⟨_, rfl, rfl, Below.refl _ _⟩
              have hc : ∀ v, a.eval (.const v) = v := fun _ => rfl
              have hfn : ∀ f, a.eval (.func f) = .func (.func f) #[] #[] := fun _ => rfl
              clear ha hF
              generalize a.eval = ρ at *
              simp [execOp, go_sem, e0, hc, hfn]
            | 5, ho =>
              obtain rfl := Option.some.inj ho
              clear ho
              intro vals w1 a hg hF ha
              have f0 : vals 4 = .bool true := hF 4 (mem_ancs (by kernel_rfl))
              have e0 : a.eval (.tmp 10) = .bool true := ((ha (.tmp 10) (by simp [Op.operands, Call.operands])).trans rfl).trans f0
              refine (if_pos rfl).mpr (.inl ?_)
              refine wp_value (v := .bool true) ?_ ⟨_, rfl, rfl, Below.refl _ _⟩
              have hc : ∀ v, a.eval (.const v) = v := fun _ => rfl
              have hfn : ∀ f, a.eval (.func f) = .func (.func f) #[] #[] := fun _ => rfl
              clear ha hF
              generalize a.eval = ρ at *
              simp [execOp, go_sem, e0, hc, hfn]
            | 6, ho =>
              obtain rfl := Option.some.inj ho
              clear ho
              intro vals w1 a hg hF ha
              have e0 : a.eval (.tmp 0) = .pointer (some ⟨b, 0, none⟩) := (ha (.tmp 0) (by simp [Op.operands, Call.operands])).trans rfl
              have g0 : vals 5 = .bool true := hF 5 (mem_ancs (by kernel_rfl))
              refine (if_pos (by simp [wantedV, g0])).mpr (.inl ?_)
              refine wp_value (v := .pointer (some ⟨b, 0, none⟩)) ?_ ⟨_, rfl, rfl, Below.refl _ _⟩
              have hc : ∀ v, a.eval (.const v) = v := fun _ => rfl
              have hfn : ∀ f, a.eval (.func f) = .func (.func f) #[] #[] := fun _ => rfl
              clear ha hF
              generalize a.eval = ρ at *
              simp [execOp, go_sem, e0, hc, hfn]
            | 7, ho =>
              obtain rfl := Option.some.inj ho
              clear ho
              intro vals w1 a hg hF ha
              have f0 : vals 6 = .pointer (some ⟨b, 0, none⟩) := hF 6 (mem_ancs (by kernel_rfl))
              have e0 : a.eval (.tmp 12) = .pointer (some ⟨b, 0, none⟩) := ((ha (.tmp 12) (by simp [Op.operands, Call.operands])).trans rfl).trans f0
              have g0 : vals 5 = .bool true := hF 5 (mem_ancs (by kernel_rfl))
              refine (if_pos (by simp [wantedV, g0])).mpr (.inl ?_)
              refine wp_value (v := .pointer (some ⟨b, 0, none⟩)) ?_ ⟨_, rfl, rfl, Below.refl _ _⟩
              have hc : ∀ v, a.eval (.const v) = v := fun _ => rfl
              have hfn : ∀ f, a.eval (.func f) = .func (.func f) #[] #[] := fun _ => rfl
              clear ha hF
              generalize a.eval = ρ at *
              simp [execOp, go_sem, e0, hc, hfn]
            | 8, ho =>
              obtain rfl := Option.some.inj ho
              clear ho
              intro vals w1 a hg hF ha
              have f0 : vals 7 = .pointer (some ⟨b, 0, none⟩) := hF 7 (mem_ancs (by kernel_rfl))
              have e0 : a.eval (.tmp 13) = .pointer (some ⟨b, 0, none⟩) := ((ha (.tmp 13) (by simp [Op.operands, Call.operands])).trans rfl).trans f0
              have g0 : vals 5 = .bool true := hF 5 (mem_ancs (by kernel_rfl))
              refine (if_pos (by simp [wantedV, g0])).mpr (.inl ?_)
              refine wp_value (v := .pointer (some ⟨b, 1, none⟩)) ?_ ⟨_, rfl, rfl, Below.refl _ _⟩
              have hc : ∀ v, a.eval (.const v) = v := fun _ => rfl
              have hfn : ∀ f, a.eval (.func f) = .func (.func f) #[] #[] := fun _ => rfl
              clear ha hF
              generalize a.eval = ρ at *
              simp [execOp, go_sem, e0, hc, hfn]
            | 9, ho =>
              obtain rfl := Option.some.inj ho
              clear ho
              intro vals w1 a hg hF ha
              have f0 : vals 8 = .pointer (some ⟨b, 1, none⟩) := hF 8 (mem_ancs (by kernel_rfl))
              have e0 : a.eval (.tmp 14) = .pointer (some ⟨b, 1, none⟩) := ((ha (.tmp 14) (by simp [Op.operands, Call.operands])).trans rfl).trans f0
              have c1 := hg.c1
              have hbl := hg.lt
              have g0 : vals 5 = .bool true := hF 5 (mem_ancs (by kernel_rfl))
              refine (if_pos (by simp [wantedV, g0])).mpr (.inl ?_)
              refine wp_value (v := .int .i64 (st.pl : Int)) ?_ ⟨_, rfl, rfl, Below.refl _ _⟩
              have hc : ∀ v, a.eval (.const v) = v := fun _ => rfl
              have hfn : ∀ f, a.eval (.func f) = .func (.func f) #[] #[] := fun _ => rfl
              clear ha hF
              generalize a.eval = ρ at *
              simp [execOp, go_sem, e0, c1, hbl, hc, hfn]
            | 10, ho =>
              obtain rfl := Option.some.inj ho
              clear ho
              intro vals w1 a hg hF ha
              have e0 : a.eval (.tmp 0) = .pointer (some ⟨b, 0, none⟩) := (ha (.tmp 0) (by simp [Op.operands, Call.operands])).trans rfl
              have g0 : vals 5 = .bool true := hF 5 (mem_ancs (by kernel_rfl))
              refine (if_pos (by simp [wantedV, g0])).mpr (.inl ?_)
              refine wp_value (v := .pointer (some ⟨b, 0, none⟩)) ?_ ⟨_, rfl, rfl, Below.refl _ _⟩
              have hc : ∀ v, a.eval (.const v) = v := fun _ => rfl
              have hfn : ∀ f, a.eval (.func f) = .func (.func f) #[] #[] := fun _ => rfl
              clear ha hF
              generalize a.eval = ρ at *
              simp [execOp, go_sem, e0, hc, hfn]
            | 11, ho =>
              obtain rfl := Option.some.inj ho
              clear ho
              intro vals w1 a hg hF ha
              have f0 : vals 10 = .pointer (some ⟨b, 0, none⟩) := hF 10 (mem_ancs (by kernel_rfl))
              have e0 : a.eval (.tmp 16) = .pointer (some ⟨b, 0, none⟩) := ((ha (.tmp 16) (by simp [Op.operands, Call.operands])).trans rfl).trans f0
              have g0 : vals 5 = .bool true := hF 5 (mem_ancs (by kernel_rfl))
              refine (if_pos (by simp [wantedV, g0])).mpr (.inl ?_)
              refine wp_value (v := .pointer (some ⟨b, 0, none⟩)) ?_ ⟨_, rfl, rfl, Below.refl _ _⟩
              have hc : ∀ v, a.eval (.const v) = v := fun _ => rfl
              have hfn : ∀ f, a.eval (.func f) = .func (.func f) #[] #[] := fun _ => rfl
              clear ha hF
              generalize a.eval = ρ at *
              simp [execOp, go_sem, e0, hc, hfn]
            | 12, ho =>
              obtain rfl := Option.some.inj ho
              clear ho
              intro vals w1 a hg hF ha
              have f0 : vals 11 = .pointer (some ⟨b, 0, none⟩) := hF 11 (mem_ancs (by kernel_rfl))
              have e0 : a.eval (.tmp 17) = .pointer (some ⟨b, 0, none⟩) := ((ha (.tmp 17) (by simp [Op.operands, Call.operands])).trans rfl).trans f0
              have g0 : vals 5 = .bool true := hF 5 (mem_ancs (by kernel_rfl))
              refine (if_pos (by simp [wantedV, g0])).mpr (.inl ?_)
              refine wp_value (v := .pointer (some ⟨b, 0, none⟩)) ?_ ⟨_, rfl, rfl, Below.refl _ _⟩
              have hc : ∀ v, a.eval (.const v) = v := fun _ => rfl
              have hfn : ∀ f, a.eval (.func f) = .func (.func f) #[] #[] := fun _ => rfl
              clear ha hF
              generalize a.eval = ρ at *
              simp [execOp, go_sem, e0, hc, hfn]
            | 13, ho =>
              obtain rfl := Option.some.inj ho
              clear ho
              intro vals w1 a hg hF ha
              have f0 : vals 12 = .pointer (some ⟨b, 0, none⟩) := hF 12 (mem_ancs (by kernel_rfl))
              have e0 : a.eval (.tmp 18) = .pointer (some ⟨b, 0, none⟩) := ((ha (.tmp 18) (by simp [Op.operands, Call.operands])).trans rfl).trans f0
              have c0 := hg.c0
              have hbl := hg.lt
              have g0 : vals 5 = .bool true := hF 5 (mem_ancs (by kernel_rfl))
              refine (if_pos (by simp [wantedV, g0])).mpr (.inl ?_)
              refine wp_value (v := .string s) ?_ ⟨_, rfl, rfl, Below.refl _ _⟩
              have hc : ∀ v, a.eval (.const v) = v := fun _ => rfl
              have hfn : ∀ f, a.eval (.func f) = .func (.func f) #[] #[] := fun _ => rfl
              clear ha hF
              generalize a.eval = ρ at *
              simp [execOp, go_sem, e0, c0, hbl, hc, hfn]
            | 14, ho =>
              obtain rfl := Option.some.inj ho
              clear ho
              intro vals w1 a hg hF ha
              have f0 : vals 13 = .string s := hF 13 (mem_ancs (by kernel_rfl))
              have e0 : a.eval (.tmp 19) = .string s := ((ha (.tmp 19) (by simp [Op.operands, Call.operands])).trans rfl).trans f0
              have g0 : vals 5 = .bool true := hF 5 (mem_ancs (by kernel_rfl))
              refine (if_pos (by simp [wantedV, g0])).mpr (.inl ?_)
              refine wp_value (v := .int .i64 (s.size : Int)) ?_ ⟨_, rfl, rfl, Below.refl _ _⟩
              have hc : ∀ v, a.eval (.const v) = v := fun _ => rfl
              have hfn : ∀ f, a.eval (.func f) = .func (.func f) #[] #[] := fun _ => rfl
              clear ha hF
              generalize a.eval = ρ at *
              simp [execOp, go_sem, e0, hc, hfn]
            | 15, ho =>
              obtain rfl := Option.some.inj ho
              clear ho
              intro vals w1 a hg hF ha
              have f0 : vals 9 = .int .i64 (st.pl : Int) := hF 9 (mem_ancs (by kernel_rfl))
              have e0 : a.eval (.tmp 15) = .int .i64 (st.pl : Int) := ((ha (.tmp 15) (by simp [Op.operands, Call.operands])).trans rfl).trans f0
              have f1 : vals 14 = .int .i64 (s.size : Int) := hF 14 (mem_ancs (by kernel_rfl))
              have e1 : a.eval (.tmp 20) = .int .i64 (s.size : Int) := ((ha (.tmp 20) (by simp [Op.operands, Call.operands])).trans rfl).trans f1
              have g0 : vals 5 = .bool true := hF 5 (mem_ancs (by kernel_rfl))
              refine (if_pos (by simp [wantedV, g0])).mpr (.inl ?_)
              refine wp_value (v := .bool true) ?_ ⟨_, rfl, rfl, Below.refl _ _⟩
              have hc : ∀ v, a.eval (.const v) = v := fun _ => rfl
              have hfn : ∀ f, a.eval (.func f) = .func (.func f) #[] #[] := fun _ => rfl
              clear ha hF
              generalize a.eval = ρ at *
              simp [execOp, go_sem, e0, e1, hd1, hd1n, hc, hfn]
            | 16, ho =>
              obtain rfl := Option.some.inj ho
              clear ho
              intro vals w1 a hg hF ha
              have f0 : vals 5 = .bool true := hF 5 (mem_ancs (by kernel_rfl))
              have e0 : a.eval (.tmp 11) = .bool true := ((ha (.tmp 11) (by simp [Op.operands, Call.operands])).trans rfl).trans f0
              have f1 : vals 15 = .bool true := hF 15 (mem_ancs (by kernel_rfl))
              have e1 : a.eval (.tmp 21) = .bool true := ((ha (.tmp 21) (by simp [Op.operands, Call.operands])).trans rfl).trans f1
              refine (if_pos rfl).mpr (.inl ?_)
              refine wp_value (v := .bool true) ?_ ⟨_, rfl, rfl, Below.refl _ _⟩
              have hc : ∀ v, a.eval (.const v) = v := fun _ => rfl
              have hfn : ∀ f, a.eval (.func f) = .func (.func f) #[] #[] := fun _ => rfl
              clear ha hF
              generalize a.eval = ρ at *
              simp [execOp, go_sem, e0, e1, hc, hfn]
            | 17, ho =>
              obtain rfl := Option.some.inj ho
              clear ho
              intro vals w1 a hg hF ha
              have f0 : vals 16 = .bool true := hF 16 (mem_ancs (by kernel_rfl))
              have e0 : a.eval (.tmp 22) = .bool true := ((ha (.tmp 22) (by simp [Op.operands, Call.operands])).trans rfl).trans f0
              refine (if_pos rfl).mpr (.inl ?_)
              refine wp_value (v := .bool true) ?_ ⟨_, rfl, rfl, Below.refl _ _⟩
              have hc : ∀ v, a.eval (.const v) = v := fun _ => rfl
              have hfn : ∀ f, a.eval (.func f) = .func (.func f) #[] #[] := fun _ => rfl
              clear ha hF
              generalize a.eval = ρ at *
              simp [execOp, go_sem, e0, hc, hfn]
            | 18, ho =>
              obtain rfl := Option.some.inj ho
              clear ho
              intro vals w1 a hg hF ha
              have e0 : a.eval (.tmp 0) = .pointer (some ⟨b, 0, none⟩) := (ha (.tmp 0) (by simp [Op.operands, Call.operands])).trans rfl
              have g0 : vals 17 = .bool true := hF 17 (mem_ancs (by kernel_rfl))
              refine (if_pos (by simp [wantedV, g0])).mpr (.inl ?_)
              refine wp_value (v := .pointer (some ⟨b, 0, none⟩)) ?_ ⟨_, rfl, rfl, Below.refl _ _⟩
              have hc : ∀ v, a.eval (.const v) = v := fun _ => rfl
              have hfn : ∀ f, a.eval (.func f) = .func (.func f) #[] #[] := fun _ => rfl
              clear ha hF
              generalize a.eval = ρ at *
              simp [execOp, go_sem, e0, hc, hfn]
            | 19, ho =>
              obtain rfl := Option.some.inj ho
              clear ho
              intro vals w1 a hg hF ha
              have f0 : vals 18 = .pointer (some ⟨b, 0, none⟩) := hF 18 (mem_ancs (by kernel_rfl))
              have e0 : a.eval (.tmp 24) = .pointer (some ⟨b, 0, none⟩) := ((ha (.tmp 24) (by simp [Op.operands, Call.operands])).trans rfl).trans f0
              have g0 : vals 17 = .bool true := hF 17 (mem_ancs (by kernel_rfl))
              refine (if_pos (by simp [wantedV, g0])).mpr (.inl ?_)
              refine wp_calls (f := 20) (args := #[.pointer (some ⟨b, 0, none⟩), .string ⟨#[92, 41]⟩]) (w1 := w1) (w' := w1.drew) (v := .bool I) ?_ (IS.out w1 hg) ⟨_, rfl, rfl, ⟨rfl, rfl, rfl, Nat.le_refl _, fun _ _ => rfl⟩⟩
              have hc : ∀ v, a.eval (.const v) = v := fun _ => rfl
              have hfn : ∀ f, a.eval (.func f) = .func (.func f) #[] #[] := fun _ => rfl
              clear ha hF
              generalize a.eval = ρ at *
              simp [execOp, go_sem, e0, hc, hfn]
            | 20, ho =>
              obtain rfl := Option.some.inj ho
              clear ho
              intro vals w1 a hg hF ha
              have f0 : vals 19 = .bool I := hF 19 (mem_ancs (by kernel_rfl))
              have e0 : a.eval (.tmp 25) = .bool I := ((ha (.tmp 25) (by simp [Op.operands, Call.operands])).trans rfl).trans f0
              have g0 : vals 17 = .bool true := hF 17 (mem_ancs (by kernel_rfl))
              refine (if_pos (by simp [wantedV, g0])).mpr (.inl ?_)
              refine wp_value (v := .bool !I) ?_ ⟨_, rfl, rfl, Below.refl _ _⟩
              have hc : ∀ v, a.eval (.const v) = v := fun _ => rfl
              have hfn : ∀ f, a.eval (.func f) = .func (.func f) #[] #[] := fun _ => rfl
              clear ha hF
              generalize a.eval = ρ at *
              simp [execOp, go_sem, e0, hc, hfn]
            | 21, ho =>
              obtain rfl := Option.some.inj ho
              clear ho
              intro vals w1 a hg hF ha
              have f0 : vals 17 = .bool true := hF 17 (mem_ancs (by kernel_rfl))
              have e0 : a.eval (.tmp 23) = .bool true := ((ha (.tmp 23) (by simp [Op.operands, Call.operands])).trans rfl).trans f0
              have f1 : vals 20 = .bool !I := hF 20 (mem_ancs (by kernel_rfl))
              have e1 : a.eval (.tmp 26) = .bool !I := ((ha (.tmp 26) (by simp [Op.operands, Call.operands])).trans rfl).trans f1
              refine (if_pos rfl).mpr (.inl ?_)
              refine wp_value (v := .bool !I) ?_ ⟨_, rfl, rfl, Below.refl _ _⟩
              have hc : ∀ v, a.eval (.const v) = v := fun _ => rfl
              have hfn : ∀ f, a.eval (.func f) = .func (.func f) #[] #[] := fun _ => rfl
              clear ha hF
              generalize a.eval = ρ at *
              simp [execOp, go_sem, e0, e1, hc, hfn]
            | 22, ho =>
              obtain rfl := Option.some.inj ho
              clear ho
              intro vals w1 a hg hF ha
              have f0 : vals 21 = .bool !I := hF 21 (mem_ancs (by kernel_rfl))
              have e0 : a.eval (.tmp 27) = .bool !I := ((ha (.tmp 27) (by simp [Op.operands, Call.operands])).trans rfl).trans f0
              refine (if_pos rfl).mpr (.inl ?_)
              refine wp_value (v := .bool !I) ?_ ⟨_, rfl, rfl, Below.refl _ _⟩
              have hc : ∀ v, a.eval (.const v) = v := fun _ => rfl
              have hfn : ∀ f, a.eval (.func f) = .func (.func f) #[] #[] := fun _ => rfl
              clear ha hF
              generalize a.eval = ρ at *
              simp [execOp, go_sem, e0, hc, hfn]
            | 23, ho =>
              obtain rfl := Option.some.inj ho
              clear ho
              intro vals w1 a hg hF ha
              cases I with
              | true =>
                have g0 : vals 22 = .bool false := hF 22 (mem_ancs (by kernel_rfl))
                exact (if_neg (by simp [wantedV, g0])).mpr (fun h => by cases h)
              | false =>
                have e0 : a.eval (.tmp 0) = .pointer (some ⟨b, 0, none⟩) := (ha (.tmp 0) (by simp [Op.operands, Call.operands])).trans rfl
                have g0 : vals 22 = .bool true := hF 22 (mem_ancs (by kernel_rfl))
                refine (if_pos (by simp [wantedV, g0])).mpr (.inl ?_)
                refine wp_value (v := .pointer (some ⟨b, 0, none⟩)) ?_ ⟨_, rfl, (fun _ => rfl), Below.refl _ _⟩
                have hc : ∀ v, a.eval (.const v) = v := fun _ => rfl
                have hfn : ∀ f, a.eval (.func f) = .func (.func f) #[] #[] := fun _ => rfl
                clear ha hF
                generalize a.eval = ρ at *
                simp [execOp, go_sem, e0, hc, hfn]
            | 24, ho =>
              obtain rfl := Option.some.inj ho
              clear ho
              intro vals w1 a hg hF ha
              cases I with
              | true =>
                have g0 : vals 22 = .bool false := hF 22 (mem_ancs (by kernel_rfl))
                exact (if_neg (by simp [wantedV, g0])).mpr (fun h => by cases h)
              | false =>
                have f0 : vals 23 = .pointer (some ⟨b, 0, none⟩) := (hF 23 (mem_ancs (by kernel_rfl))) rfl
                have e0 : a.eval (.tmp 29) = .pointer (some ⟨b, 0, none⟩) := ((ha (.tmp 29) (by simp [Op.operands, Call.operands])).trans rfl).trans f0
                have g0 : vals 22 = .bool true := hF 22 (mem_ancs (by kernel_rfl))
                refine (if_pos (by simp [wantedV, g0])).mpr (.inl ?_)
                refine wp_value (v := .pointer (some ⟨b, 0, none⟩)) ?_ ⟨_, rfl, (fun _ => rfl), Below.refl _ _⟩
                have hc : ∀ v, a.eval (.const v) = v := fun _ => rfl
                have hfn : ∀ f, a.eval (.func f) = .func (.func f) #[] #[] := fun _ => rfl
                clear ha hF
                generalize a.eval = ρ at *
                simp [execOp, go_sem, e0, hc, hfn]
            | 25, ho =>
              obtain rfl := Option.some.inj ho
              clear ho
              intro vals w1 a hg hF ha
              cases I with
              | true =>
                have g0 : vals 22 = .bool false := hF 22 (mem_ancs (by kernel_rfl))
                exact (if_neg (by simp [wantedV, g0])).mpr (fun h => by cases h)
              | false =>
                have f0 : vals 24 = .pointer (some ⟨b, 0, none⟩) := (hF 24 (mem_ancs (by kernel_rfl))) rfl
                have e0 : a.eval (.tmp 30) = .pointer (some ⟨b, 0, none⟩) := ((ha (.tmp 30) (by simp [Op.operands, Call.operands])).trans rfl).trans f0
                have g0 : vals 22 = .bool true := hF 22 (mem_ancs (by kernel_rfl))
                refine (if_pos (by simp [wantedV, g0])).mpr (.inl ?_)
                refine wp_value (v := .pointer (some ⟨b, 2, none⟩)) ?_ ⟨_, rfl, (fun _ => rfl), Below.refl _ _⟩
                have hc : ∀ v, a.eval (.const v) = v := fun _ => rfl
                have hfn : ∀ f, a.eval (.func f) = .func (.func f) #[] #[] := fun _ => rfl
                clear ha hF
                generalize a.eval = ρ at *
                simp [execOp, go_sem, e0, hc, hfn]
            | 26, ho =>
              obtain rfl := Option.some.inj ho
              clear ho
              intro vals w1 a hg hF ha
              cases I with
              | true =>
                have g0 : vals 22 = .bool false := hF 22 (mem_ancs (by kernel_rfl))
                exact (if_neg (by simp [wantedV, g0])).mpr (fun h => by cases h)
              | false =>
                have f0 : vals 25 = .pointer (some ⟨b, 2, none⟩) := (hF 25 (mem_ancs (by kernel_rfl))) rfl
                have e0 : a.eval (.tmp 31) = .pointer (some ⟨b, 2, none⟩) := ((ha (.tmp 31) (by simp [Op.operands, Call.operands])).trans rfl).trans f0
                have c2 := hg.c2
                have hbl := hg.lt
                have g0 : vals 22 = .bool true := hF 22 (mem_ancs (by kernel_rfl))
                refine (if_pos (by simp [wantedV, g0])).mpr (.inl ?_)
                refine wp_value (v := .int .i64 (st.g : Int)) ?_ ⟨_, rfl, (fun _ => rfl), Below.refl _ _⟩
                have hc : ∀ v, a.eval (.const v) = v := fun _ => rfl
                have hfn : ∀ f, a.eval (.func f) = .func (.func f) #[] #[] := fun _ => rfl
                clear ha hF
                generalize a.eval = ρ at *
                simp [execOp, go_sem, e0, c2, hbl, hc, hfn]
            | 27, ho =>
              obtain rfl := Option.some.inj ho
              clear ho
              intro vals w1 a hg hF ha
              cases I with
              | true =>
                have g0 : vals 22 = .bool false := hF 22 (mem_ancs (by kernel_rfl))
                exact (if_neg (by simp [wantedV, g0])).mpr (fun h => by cases h)
              | false =>
                have f0 : vals 26 = .int .i64 (st.g : Int) := (hF 26 (mem_ancs (by kernel_rfl))) rfl
                have e0 : a.eval (.tmp 32) = .int .i64 (st.g : Int) := ((ha (.tmp 32) (by simp [Op.operands, Call.operands])).trans rfl).trans f0
                have g0 : vals 22 = .bool true := hF 22 (mem_ancs (by kernel_rfl))
                refine (if_pos (by simp [wantedV, g0])).mpr (.inl ?_)
                refine wp_value (v := .bool L) ?_ ⟨_, rfl, (fun _ => rfl), Below.refl _ _⟩
                have hc : ∀ v, a.eval (.const v) = v := fun _ => rfl
                have hfn : ∀ f, a.eval (.func f) = .func (.func f) #[] #[] := fun _ => rfl
                clear ha hF
                generalize a.eval = ρ at *
                simp [execOp, go_sem, e0, HL1, HL2, hc, hfn]
            | 28, ho =>
              obtain rfl := Option.some.inj ho
              clear ho
              intro vals w1 a hg hF ha
              cases I with
              | true =>
                have f0 : vals 22 = .bool false := hF 22 (mem_ancs (by kernel_rfl))
                have e0 : a.eval (.tmp 28) = .bool false := ((ha (.tmp 28) (by simp [Op.operands, Call.operands])).trans rfl).trans f0
                refine (if_pos rfl).mpr (.inl ?_)
                refine wp_value (v := .bool false) ?_ ⟨_, rfl, rfl, Below.refl _ _⟩
                have hc : ∀ v, a.eval (.const v) = v := fun _ => rfl
                have hfn : ∀ f, a.eval (.func f) = .func (.func f) #[] #[] := fun _ => rfl
                clear ha hF
                generalize a.eval = ρ at *
                simp [execOp, go_sem, e0, hc, hfn]
              | false =>
                have f0 : vals 22 = .bool true := hF 22 (mem_ancs (by kernel_rfl))
                have e0 : a.eval (.tmp 28) = .bool true := ((ha (.tmp 28) (by simp [Op.operands, Call.operands])).trans rfl).trans f0
                have f1 : vals 27 = .bool L := (hF 27 (mem_ancs (by kernel_rfl))) rfl
                have e1 : a.eval (.tmp 33) = .bool L := ((ha (.tmp 33) (by simp [Op.operands, Call.operands])).trans rfl).trans f1
                refine (if_pos rfl).mpr (.inl ?_)
                refine wp_value (v := .bool L) ?_ ⟨_, rfl, (by cases L <;> rfl), Below.refl _ _⟩
                have hc : ∀ v, a.eval (.const v) = v := fun _ => rfl
                have hfn : ∀ f, a.eval (.func f) = .func (.func f) #[] #[] := fun _ => rfl
                clear ha hF
                generalize a.eval = ρ at *
                simp [execOp, go_sem, e0, e1, hc, hfn]
            | n + 29, ho => simp at ho
          · intro vals w2 hB hG hV
            have v34 : vals 28 = .bool (!I && L) := hV 28 (by decide)
            simp only [putList, Act.put, List.setIfInBounds_toArray, List.set_cons_zero, List.set_cons_succ, Nat.zero_add, Nat.reduceAdd]
            go_wp2_with fail
            go_meet
            exact ⟨v34, hG, ⟨hB.os, hB.tape, hB.output, hB.size, hB.block⟩⟩
        case rest =>
          obtain ⟨rfl, hG, hB2⟩ := hcut
          cases I with
          | true =>
            have e34 : (!true && L) = false := rfl
            rw [e34]
            have hX : R = (acc, st) := by rw [← HR.out, rRow, if_neg (by rintro ⟨-, -, h3, h4⟩; simp_all)]
            have HX := Lib.hid hX
            clear hX
            go_wp2_with fail
            go_ret
            exact HF.out HX.out _ hG (ownsRow_keep hown (Keep.ofBelow hB2)) (RepK.keep (Keep.ofBelow hB2) _ _ hRep) (hU.thenBelow hB2 hU.size)
          | false =>
            cases L with
            | false =>
              have h900 := of_decide_eq_false HL2
              have hX : R = (acc, st) := by rw [← HR.out, rRow, if_neg (by rintro ⟨-, -, h3, h4⟩; simp_all)]
              have HX := Lib.hid hX
              clear hX
              go_wp2_with fail
              go_ret
              exact HF.out HX.out _ hG (ownsRow_keep hown (Keep.ofBelow hB2)) (RepK.keep (Keep.ofBelow hB2) _ _ hRep) (hU.thenBelow hB2 hU.size)
            | true =>
              have h900 := of_decide_eq_true HL2
              have hownc := ownsRow_keep hown (Keep.ofBelow (e := 60) (D := fun g => w.heap.size ≤ g ∧ (Value.slice a acc.tops.length cp).ownBlock = some g) hB2)
              have hRepc := RepK.keep (Keep.ofBelow (e := 60) (D := fun j => w.heap.size ≤ j ∧ (Value.slice a acc.tops.length cp).ownBlock ≠ some j) hB2) _ _ hRep
              have hUc := hU.thenBelow hB2 hU.size
              clear hown hRep hU hP hB2 c0 c1 c2 c6 hbr hbd d2 hbdd IS HF
              obtain ⟨fb, hfb⟩ : ∃ fb, decide (acc.tops.length = 0) = fb := ⟨_, rfl⟩
              have i0 : ((acc.tops.length : Int) == 0) = fb := by rw [← hfb, Bool.eq_iff_iff, beq_iff_eq, decide_eq_true_iff]; omega
              have hX := HR.out
              rw [rRow, if_pos ⟨HB.out, hlt, hi, h900⟩] at hX
              dsimp only at hX
              rw [hfb] at hX
              obtain ⟨hpl, hps⟩ := rPart_le (row := fun x => rRow s m x .nil false) (fun x hx => rRow_le s m x .nil false hx) hI h900 hlt fb begun
              have hpart := rnpart_any wc b s st (fun _ => False) m fb begun (ih m (by omega)) hG hI hsz hlt h900 (by omega)
              obtain ⟨⟨⟨h, k⟩, st1⟩, hPE⟩ : ∃ p, rPart (fun x => rRow s m x .nil false) s st fb begun = p := ⟨_, rfl⟩
              rw [hPE] at hX hpl hps hpart
              simp only at hX hpl hps
              have HX := Lib.hid hX
              have HPT := Lib.hid hpart
              have hI1 := hpl.inv hI
              have hp1 := hpl.pl
              have HPS := Lib.hid hps
              clear hX hpart hPE hfb hps hpl
              go_wp2_with fail
              refine HPT.out.mono ?_
              rintro e w1 ⟨kv, rfl, hR1, hS1, hU1⟩
              simp only at hR1 hS1
              have hown1 := ownsRow_keep hownc (keepRN hG hU1)
              have hRep1 := RepK.keep (keepRN hG hU1) _ _ hRepc
              have hR1' : Rep (fun j => w.heap.size ≤ j ∧ (Value.slice a acc.tops.length cp).ownBlock ≠ some j) 60 w1 kv k := hR1.mono fun j hj _ => by
                rcases hj with hj | hj
                · exact hj.elim
                · refine ⟨Nat.le_trans hUc.size hj, fun he => ?_⟩
                  have := (hownc.lt j he).2
                  omega
              have hU1' := hUc.trans hU1
              have hsz1 := Nat.le_trans hUc.size hU1.size
              clear hownc hRepc hR1 hU1 hUc hG
              have hov : ∀ j, (Value.slice a acc.tops.length cp).ownBlock = some j → w.heap.size ≤ j ∧ j < w1.heap.size := hown1.lt
              have hN1 := ndA_one h.kind h.byte h.set h.n h.mn h.mx kv hR1'.one
              have hgx2 : ((w1.alloc (.cells (ndA 0 0 noS 0 0 0 (.slice none 0 0)) 60)).setRow w1.heap.size (ndA h.kind h.byte h.set h.n h.mn h.mx kv)).heap[w1.heap.size]? = some (.cells (ndA h.kind h.byte h.set h.n h.mn h.mx kv) 60 (0, 0)) := setRow_heap _ _ _ _ _ _ (hq_eq (o := (.cells (ndA 0 0 noS 0 0 0 (.slice none 0 0)) 60)) rfl)
              have hsz2 : ((w1.alloc (.cells (ndA 0 0 noS 0 0 0 (.slice none 0 0)) 60)).setRow w1.heap.size (ndA h.kind h.byte h.set h.n h.mn h.mx kv)).heap.size = w1.heap.size + 1 := by rw [sz_row, sz_alloc]
              have hown2 := ownsRow_keep (ownsRow_keep hown1 (Keep.alloc (.cells (ndA 0 0 noS 0 0 0 (.slice none 0 0)) 60))) (w' := ((w1.alloc (.cells (ndA 0 0 noS 0 0 0 (.slice none 0 0)) 60)).setRow w1.heap.size (ndA h.kind h.byte h.set h.n h.mn h.mx kv))) (Keep.setRow _ _ fun j hj _ he => by have := (hown1.lt j hj.2).2; omega)
              have hlow2 : Keep (fun j => (w.heap.size ≤ j ∧ (Value.slice a acc.tops.length cp).ownBlock ≠ some j) ∧ j < w1.heap.size) 60 w1 ((w1.alloc (.cells (ndA 0 0 noS 0 0 0 (.slice none 0 0)) 60)).setRow w1.heap.size (ndA h.kind h.byte h.set h.n h.mn h.mx kv)) :=
                (Keep.alloc _).trans (Keep.setRow _ _ fun j hj _ he => by omega)
              have hRep2 := RepK.keep hlow2 _ _ (RepK.mono (fun j hj hlt => ⟨hj, hlt⟩) _ _ hRep1)
              have hR2 := (hR1'.mono fun j hj hlt => (⟨hj, hlt⟩ : (w.heap.size ≤ j ∧ (Value.slice a acc.tops.length cp).ownBlock ≠ some j) ∧ j < w1.heap.size)).keep hlow2
              have hb1 := hS1.lt
              have hS2 := (hS1.alloc (.cells (ndA 0 0 noS 0 0 0 (.slice none 0 0)) 60)).setRow (k := w1.heap.size) (ndA h.kind h.byte h.set h.n h.mn h.mx kv) (by omega)
              have hU2 := (hU1'.alloc (.cells (ndA 0 0 noS 0 0 0 (.slice none 0 0)) 60)).setRow w1.heap.size (ndA h.kind h.byte h.set h.n h.mn h.mx kv) fun hh => absurd hh (by omega)
              clear hS1 hown1 hRep1 hR1' hU1' hlow2
              unfold ndH
              go_upto_region 5 with (first | ((with_reducible apply stRN); (focus rfl); (focus rfl); (focus ((try simp (disch := (first | (simp only [sz_alloc, sz_set, sz_row, sz_drew, sz_drewN] <;> omega) | omega)) only [hq_eq, hq_ne, hq_set, hq_row, hq_drew, hq_drewN]) <;> (first | rfl | assumption))); (focus (first | assumption | exact ndA_size _ _ _ _ _ _ _)); (focus (first | assumption | exact ndA_size _ _ _ _ _ _ _)); (focus (first | assumption | exact ndA_one _ _ _ _ _ _ _ rfl))))
              generalize ((w1.alloc (.cells (ndA 0 0 noS 0 0 0 (.slice none 0 0)) 60)).setRow w1.heap.size (ndA h.kind h.byte h.set h.n h.mn h.mx kv)) = w2 at *
              have k0 : w2.cell? ⟨w1.heap.size, 0, none⟩ = some (.int .i64 h.kind) := by rw [cell_of_heap hgx2]; exact ndA_get0 _ _ _ _ _ _ _
              have c6 := hS2.c6
              have hgl2 := lt_of_heap hgx2
              have hbl2 := hS2.lt
              cases hb1' : st1.bad with
              | true =>
                rw [hb1'] at c6
                obtain ⟨bg, hbg⟩ : ∃ bg, (h.kind == 4) = bg := ⟨_, rfl⟩
                have HB1 := Lib.hid hb1'
                clear hb1'
                have hXF := Lib.hid (show rRow s m st1 (acc.snoc h k) bg = R by
                  have hX := HX.out
                  rw [if_neg (fun h => by rw [HB1.out] at h; cases h.1), hbg] at hX
                  exact hX)
                have hmF : Hid (2 * (s.size - st1.pl) + (if st1.bad = true then 0 else 1) < 2 * (s.size - st.pl) + (if false = true then 0 else 1)) := Lib.hid (by
                  have htop := hI1.pl
                  rcases HPS.out with hb | hb
                  · rw [hb]; simp; omega
                  · split <;> simp <;> omega)
                have hlF : Hid (st1.bad = false → s.size - st1.pl < m) := Lib.hid (fun hb => by
                  rcases HPS.out with h | h
                  · rw [h] at hb; cases hb
                  · omega)
                have hk2F : Hid (st1.bad = false → acc.tops.length + 1 ≤ st1.pl) := Lib.hid (fun hb => by
                  have := hk2 HB.out
                  rcases HPS.out with h | h
                  · rw [h] at hb; cases hb
                  · omega)
                have hkF : acc.tops.length ≤ st1.pl := by have := hk2 HB.out; omega
                go_upto_region 8 with fail
                have hownF := hown2
                have hRepF := RepK.mono (D' := fun j => w.heap.size ≤ j ∧ (Value.slice a acc.tops.length cp).ownBlock ≠ some j) (fun j hj _ => hj.1) _ _ hRep2
                have hRF := hR2.mono (D' := fun j => w.heap.size ≤ j ∧ (Value.slice a acc.tops.length cp).ownBlock ≠ some j) (fun j hj _ => hj.1)
                have hSF := hS2
                have hUF := hU2
                have hIF := hI1
                have hszF : w.heap.size ≤ w2.heap.size := by omega
                have hN1F := ndA_one h.kind h.byte h.set h.n h.mn h.mx kv hRF.one
                have hownA := ownsRow_keep hownF (Keep.alloc (.cells (ndA h.kind h.byte h.set h.n h.mn h.mx kv) 60))
                have hlA : (ndsL acc.tops kvs).length = acc.tops.length * 262 := hownA.1
                have hnewA : ∀ (j : Nat) (u : Value), (ndHL h kv)[j]? = some u → (w2.alloc (.cells (ndA h.kind h.byte h.set h.n h.mn h.mx kv) 60)).cell? ((⟨w2.heap.size, 0, none⟩ : Addr).add j) = some u := rnews_row (hq_eq (o := (.cells (ndA h.kind h.byte h.set h.n h.mn h.mx kv) 60)) rfl)
                have hbA : w.heap.size ≤ (w2.alloc (.cells (ndA h.kind h.byte h.set h.n h.mn h.mx kv) 60)).heap.size := by rw [sz_alloc]; omega
                have hkA : acc.tops.length + 1 ≤ 1002 := by omega
                have h1A : ∀ u ∈ ndHL h kv, u.oneCell' = true := nds_one hRF.one
                have hRepA := RepK.keep (Keep.alloc (.cells (ndA h.kind h.byte h.set h.n h.mn h.mx kv) 60)) _ _ hRepF
                have hRA := hRF.keep (Keep.alloc (.cells (ndA h.kind h.byte h.set h.n h.mn h.mx kv) 60))
                have hSA := hSF.alloc (.cells (ndA h.kind h.byte h.set h.n h.mn h.mx kv) 60)
                have hUA := hUF.alloc (.cells (ndA h.kind h.byte h.set h.n h.mn h.mx kv) 60)
                go_wp2_with (first
                  | ((with_reducible apply ldRN); (focus rfl); (focus ((try simp (disch := (first | (simp only [sz_alloc, sz_set, sz_row, sz_drew, sz_drewN] <;> omega) | omega)) only [hq_eq, hq_ne, hq_set, hq_row, hq_drew, hq_drewN]) <;> (first | rfl | assumption))); (focus (first | assumption | exact ndA_size _ _ _ _ _ _ _)))
                  | ((with_reducible apply bsRN); (focus rfl); (focus (first | assumption | exact ndA_size _ _ _ _ _ _ _)))
                  | ((refine appendAt w.heap.size (size := 262) (bytes := 320) (ad := ⟨w2.heap.size, 0, none⟩) (m := 1) (c := 1) (n := acc.tops.length) Tryd.underlying35 infoRNSome.choose_spec.1 infoRNSome.choose_spec.2.1 infoRNSome.choose_spec.2.2.1 infoRNSome.choose_spec.2.2.2 (ndA_size _ _ _ _ _ _ _) (by decide) ?_ hownA (ndHL h kv) ?_ (by rw [ndHL_length]) hnewA h1A (by unfold maxLen; omega) (by omega) hbA ?_); exact rfl; exact rfl; intro v' w' hown' hgr' hat'; obtain ⟨a', c', rfl⟩ := own_slice hown'))
                have hfin := rrow_step (b := b) (n := n) (m := m) (R := R) (st := st1) (begun := bg) (h := h) (k := k) hXF.out (by omega) hlF.out hIF hkF hk2F.out hSA hownA hRepA hRA hUA hown' hgr' hat'
                go_roundw
                case rel => exact hfin.1
                case measure => rw [HM.out, hfin.2.rM, HB.out]; exact hmF.out
              | false =>
                rw [hb1'] at c6
                have HB1 := Lib.hid hb1'
                clear hb1'
                by_cases h4k : h.kind = 4
                · have hbg : (h.kind == 4) = true := by rw [beq_iff_eq]; exact h4k
                  have hbn : (h.kind != 4) = false := by rw [bne_eq_false_iff_eq]; exact h4k
                  have H4K := Lib.hid h4k
                  clear h4k
                  have hXF := Lib.hid (show rRow s m st1 (acc.snoc h k) true = R by
                    have hX := HX.out
                    rw [if_neg (fun h => h.2.1 H4K.out), hbg] at hX
                    exact hX)
                  have hmF : Hid (2 * (s.size - st1.pl) + (if st1.bad = true then 0 else 1) < 2 * (s.size - st.pl) + (if false = true then 0 else 1)) := Lib.hid (by
                    have htop := hI1.pl
                    rcases HPS.out with hb | hb
                    · rw [hb]; simp; omega
                    · split <;> simp <;> omega)
                  have hlF : Hid (st1.bad = false → s.size - st1.pl < m) := Lib.hid (fun hb => by
                    rcases HPS.out with h | h
                    · rw [h] at hb; cases hb
                    · omega)
                  have hk2F : Hid (st1.bad = false → acc.tops.length + 1 ≤ st1.pl) := Lib.hid (fun hb => by
                    have := hk2 HB.out
                    rcases HPS.out with h | h
                    · rw [h] at hb; cases hb
                    · omega)
                  have hkF : acc.tops.length ≤ st1.pl := by have := hk2 HB.out; omega
                  go_upto_region 8 with fail
                  have hownF := hown2
                  have hRepF := RepK.mono (D' := fun j => w.heap.size ≤ j ∧ (Value.slice a acc.tops.length cp).ownBlock ≠ some j) (fun j hj _ => hj.1) _ _ hRep2
                  have hRF := hR2.mono (D' := fun j => w.heap.size ≤ j ∧ (Value.slice a acc.tops.length cp).ownBlock ≠ some j) (fun j hj _ => hj.1)
                  have hSF := hS2
                  have hUF := hU2
                  have hIF := hI1
                  have hszF : w.heap.size ≤ w2.heap.size := by omega
                  have hN1F := ndA_one h.kind h.byte h.set h.n h.mn h.mx kv hRF.one
                  have hownA := ownsRow_keep hownF (Keep.alloc (.cells (ndA h.kind h.byte h.set h.n h.mn h.mx kv) 60))
                  have hlA : (ndsL acc.tops kvs).length = acc.tops.length * 262 := hownA.1
                  have hnewA : ∀ (j : Nat) (u : Value), (ndHL h kv)[j]? = some u → (w2.alloc (.cells (ndA h.kind h.byte h.set h.n h.mn h.mx kv) 60)).cell? ((⟨w2.heap.size, 0, none⟩ : Addr).add j) = some u := rnews_row (hq_eq (o := (.cells (ndA h.kind h.byte h.set h.n h.mn h.mx kv) 60)) rfl)
                  have hbA : w.heap.size ≤ (w2.alloc (.cells (ndA h.kind h.byte h.set h.n h.mn h.mx kv) 60)).heap.size := by rw [sz_alloc]; omega
                  have hkA : acc.tops.length + 1 ≤ 1002 := by omega
                  have h1A : ∀ u ∈ ndHL h kv, u.oneCell' = true := nds_one hRF.one
                  have hRepA := RepK.keep (Keep.alloc (.cells (ndA h.kind h.byte h.set h.n h.mn h.mx kv) 60)) _ _ hRepF
                  have hRA := hRF.keep (Keep.alloc (.cells (ndA h.kind h.byte h.set h.n h.mn h.mx kv) 60))
                  have hSA := hSF.alloc (.cells (ndA h.kind h.byte h.set h.n h.mn h.mx kv) 60)
                  have hUA := hUF.alloc (.cells (ndA h.kind h.byte h.set h.n h.mn h.mx kv) 60)
                  go_wp2_with (first
                    | ((with_reducible apply ldRN); (focus rfl); (focus ((try simp (disch := (first | (simp only [sz_alloc, sz_set, sz_row, sz_drew, sz_drewN] <;> omega) | omega)) only [hq_eq, hq_ne, hq_set, hq_row, hq_drew, hq_drewN]) <;> (first | rfl | assumption))); (focus (first | assumption | exact ndA_size _ _ _ _ _ _ _)))
                    | ((with_reducible apply bsRN); (focus rfl); (focus (first | assumption | exact ndA_size _ _ _ _ _ _ _)))
                    | ((refine appendAt w.heap.size (size := 262) (bytes := 320) (ad := ⟨w2.heap.size, 0, none⟩) (m := 1) (c := 1) (n := acc.tops.length) Tryd.underlying35 infoRNSome.choose_spec.1 infoRNSome.choose_spec.2.1 infoRNSome.choose_spec.2.2.1 infoRNSome.choose_spec.2.2.2 (ndA_size _ _ _ _ _ _ _) (by decide) ?_ hownA (ndHL h kv) ?_ (by rw [ndHL_length]) hnewA h1A (by unfold maxLen; omega) (by omega) hbA ?_); exact rfl; exact rfl; intro v' w' hown' hgr' hat'; obtain ⟨a', c', rfl⟩ := own_slice hown'))
                  have hfin := rrow_step (b := b) (n := n) (m := m) (R := R) (st := st1) (begun := true) (h := h) (k := k) hXF.out (by omega) hlF.out hIF hkF hk2F.out hSA hownA hRepA hRA hUA hown' hgr' hat'
                  go_roundw
                  case rel => exact hfin.1
                  case measure => rw [HM.out, hfin.2.rM, HB.out]; exact hmF.out
                · have hbg : (h.kind == 4) = false := by rw [beq_eq_false_iff_ne]; exact h4k
                  have hbn : (h.kind != 4) = true := by rw [bne_iff_ne]; exact h4k
                  have H4K := Lib.hid h4k
                  clear h4k
                  by_cases h5k : h.kind = 5
                  · have hb5 : (h.kind == 5) = true := by rw [beq_iff_eq]; exact h5k
                    have hb5n : (h.kind != 5) = false := by rw [bne_eq_false_iff_eq]; exact h5k
                    have H5K := Lib.hid h5k
                    clear h5k
                    have hXF := Lib.hid (show rRow s m st1 (acc.snoc h k) false = R by
                      have hX := HX.out
                      rw [if_neg (fun h => h.2.2 H5K.out), hbg] at hX
                      exact hX)
                    have hmF : Hid (2 * (s.size - st1.pl) + (if st1.bad = true then 0 else 1) < 2 * (s.size - st.pl) + (if false = true then 0 else 1)) := Lib.hid (by
                      have htop := hI1.pl
                      rcases HPS.out with hb | hb
                      · rw [hb]; simp; omega
                      · split <;> simp <;> omega)
                    have hlF : Hid (st1.bad = false → s.size - st1.pl < m) := Lib.hid (fun hb => by
                      rcases HPS.out with h | h
                      · rw [h] at hb; cases hb
                      · omega)
                    have hk2F : Hid (st1.bad = false → acc.tops.length + 1 ≤ st1.pl) := Lib.hid (fun hb => by
                      have := hk2 HB.out
                      rcases HPS.out with h | h
                      · rw [h] at hb; cases hb
                      · omega)
                    have hkF : acc.tops.length ≤ st1.pl := by have := hk2 HB.out; omega
                    go_upto_region 8 with fail
                    have hownF := hown2
                    have hRepF := RepK.mono (D' := fun j => w.heap.size ≤ j ∧ (Value.slice a acc.tops.length cp).ownBlock ≠ some j) (fun j hj _ => hj.1) _ _ hRep2
                    have hRF := hR2.mono (D' := fun j => w.heap.size ≤ j ∧ (Value.slice a acc.tops.length cp).ownBlock ≠ some j) (fun j hj _ => hj.1)
                    have hSF := hS2
                    have hUF := hU2
                    have hIF := hI1
                    have hszF : w.heap.size ≤ w2.heap.size := by omega
                    have hN1F := ndA_one h.kind h.byte h.set h.n h.mn h.mx kv hRF.one
                    have hownA := ownsRow_keep hownF (Keep.alloc (.cells (ndA h.kind h.byte h.set h.n h.mn h.mx kv) 60))
                    have hlA : (ndsL acc.tops kvs).length = acc.tops.length * 262 := hownA.1
                    have hnewA : ∀ (j : Nat) (u : Value), (ndHL h kv)[j]? = some u → (w2.alloc (.cells (ndA h.kind h.byte h.set h.n h.mn h.mx kv) 60)).cell? ((⟨w2.heap.size, 0, none⟩ : Addr).add j) = some u := rnews_row (hq_eq (o := (.cells (ndA h.kind h.byte h.set h.n h.mn h.mx kv) 60)) rfl)
                    have hbA : w.heap.size ≤ (w2.alloc (.cells (ndA h.kind h.byte h.set h.n h.mn h.mx kv) 60)).heap.size := by rw [sz_alloc]; omega
                    have hkA : acc.tops.length + 1 ≤ 1002 := by omega
                    have h1A : ∀ u ∈ ndHL h kv, u.oneCell' = true := nds_one hRF.one
                    have hRepA := RepK.keep (Keep.alloc (.cells (ndA h.kind h.byte h.set h.n h.mn h.mx kv) 60)) _ _ hRepF
                    have hRA := hRF.keep (Keep.alloc (.cells (ndA h.kind h.byte h.set h.n h.mn h.mx kv) 60))
                    have hSA := hSF.alloc (.cells (ndA h.kind h.byte h.set h.n h.mn h.mx kv) 60)
                    have hUA := hUF.alloc (.cells (ndA h.kind h.byte h.set h.n h.mn h.mx kv) 60)
                    go_wp2_with (first
                      | ((with_reducible apply ldRN); (focus rfl); (focus ((try simp (disch := (first | (simp only [sz_alloc, sz_set, sz_row, sz_drew, sz_drewN] <;> omega) | omega)) only [hq_eq, hq_ne, hq_set, hq_row, hq_drew, hq_drewN]) <;> (first | rfl | assumption))); (focus (first | assumption | exact ndA_size _ _ _ _ _ _ _)))
                      | ((with_reducible apply bsRN); (focus rfl); (focus (first | assumption | exact ndA_size _ _ _ _ _ _ _)))
                      | ((refine appendAt w.heap.size (size := 262) (bytes := 320) (ad := ⟨w2.heap.size, 0, none⟩) (m := 1) (c := 1) (n := acc.tops.length) Tryd.underlying35 infoRNSome.choose_spec.1 infoRNSome.choose_spec.2.1 infoRNSome.choose_spec.2.2.1 infoRNSome.choose_spec.2.2.2 (ndA_size _ _ _ _ _ _ _) (by decide) ?_ hownA (ndHL h kv) ?_ (by rw [ndHL_length]) hnewA h1A (by unfold maxLen; omega) (by omega) hbA ?_); exact rfl; exact rfl; intro v' w' hown' hgr' hat'; obtain ⟨a', c', rfl⟩ := own_slice hown'))
                    have hfin := rrow_step (b := b) (n := n) (m := m) (R := R) (st := st1) (begun := false) (h := h) (k := k) hXF.out (by omega) hlF.out hIF hkF hk2F.out hSA hownA hRepA hRA hUA hown' hgr' hat'
                    go_roundw
                    case rel => exact hfin.1
                    case measure => rw [HM.out, hfin.2.rM, HB.out]; exact hmF.out
                  · have hb5 : (h.kind == 5) = false := by rw [beq_eq_false_iff_ne]; exact h5k
                    have hb5n : (h.kind != 5) = true := by rw [bne_iff_ne]; exact h5k
                    have H5K := Lib.hid h5k
                    clear h5k
                    have hX := HX.out
                    rw [if_pos ⟨HB1.out, H4K.out, H5K.out⟩, hbg] at hX
                    obtain ⟨⟨⟨h2, k2⟩, st2⟩, hTE⟩ : ∃ p, rTimes s (s.size + 1) st1 h k = p := ⟨_, rfl⟩
                    have hT := rtimes_any w2 b s st1 h kv k (fun j => (w.heap.size ≤ j ∧ (Value.slice a acc.tops.length cp).ownBlock ≠ some j) ∧ j < w1.heap.size) (s.size + 1) hS2 hI1 hsz (by omega) hR2
                    have hle2 := rTimes_le s (s.size + 1) st1 h k hI1
                    rw [hTE] at hX hT hle2
                    simp only at hX hle2
                    have hXF := Lib.hid (show rRow s m st2 (acc.snoc h2 k2) false = R from hX)
                    have HT := Lib.hid hT
                    have hI2 := hle2.inv hI1
                    have hp2 := hle2.pl
                    clear hX hT hTE hle2
                    have hstr : st.pl < st1.pl := by rcases HPS.out with h | h; rw [HB1.out] at h; cases h; exact h
                    have hmF : Hid (2 * (s.size - st2.pl) + (if st2.bad = true then 0 else 1) < 2 * (s.size - st.pl) + (if false = true then 0 else 1)) := Lib.hid (by
                      have htop := hI2.pl
                      split <;> simp <;> omega)
                    have hlF : Hid (st2.bad = false → s.size - st2.pl < m) := Lib.hid (fun _ => by omega)
                    have hk2F : Hid (st2.bad = false → acc.tops.length + 1 ≤ st2.pl) := Lib.hid (fun _ => by have := hk2 HB.out; omega)
                    have hkF : acc.tops.length ≤ st2.pl := by have := hk2 HB.out; omega
                    go_wp2_with (first | ((with_reducible apply ldRN); (focus rfl); (focus ((try simp (disch := (first | (simp only [sz_alloc, sz_set, sz_row, sz_drew, sz_drewN] <;> omega) | omega)) only [hq_eq, hq_ne, hq_set, hq_row, hq_drew, hq_drewN]) <;> (first | rfl | assumption))); (focus (first | assumption | exact ndA_size _ _ _ _ _ _ _))))
                    refine HT.out.mono ?_
                    rintro e w3 ⟨kv2, rfl, hR3, hS3, hU3⟩
                    simp only at hR3 hS3
                    have hgx3 := keepRN (D := fun _ => True) hS2 hU3 _ _ _ trivial hgx2
                    have hown3 := ownsRow_keep hown2 (keepRN hS2 hU3)
                    have hRep3 := RepK.keep (keepRN hS2 hU3) _ _ hRep2
                    have hN2 := ndA_one h2.kind h2.byte h2.set h2.n h2.mn h2.mx kv2 hR3.one
                    have hsz3 := hU3.size
                    have hU3' := hU2.trans hU3
                    have hgl3 := lt_of_heap hgx3
                    have hb3 := hS3.lt
                    unfold ndH
                    go_upto_region 8 with (first | ((with_reducible apply stRN); (focus rfl); (focus rfl); (focus ((try simp (disch := (first | (simp only [sz_alloc, sz_set, sz_row, sz_drew, sz_drewN] <;> omega) | omega)) only [hq_eq, hq_ne, hq_set, hq_row, hq_drew, hq_drewN]) <;> (first | rfl | assumption))); (focus (first | assumption | exact ndA_size _ _ _ _ _ _ _)); (focus (first | assumption | exact ndA_size _ _ _ _ _ _ _)); (focus (first | assumption | exact ndA_one _ _ _ _ _ _ _ rfl))))
                    have hown4 := ownsRow_keep hown3 (w' := w3.setRow w1.heap.size (ndA h2.kind h2.byte h2.set h2.n h2.mn h2.mx kv2)) (Keep.setRow _ _ fun j hj _ he => by have := (hov j hj.2).2; omega)
                    have hRep4 := RepK.keep (w' := w3.setRow w1.heap.size (ndA h2.kind h2.byte h2.set h2.n h2.mn h2.mx kv2)) (Keep.setRow _ _ fun j hj _ he => by omega) _ _ hRep3
                    have hR4 := hR3.keep (w' := w3.setRow w1.heap.size (ndA h2.kind h2.byte h2.set h2.n h2.mn h2.mx kv2)) (Keep.setRow _ _ fun j hj _ he => by omega)
                    have hSF := hS3.setRow (k := w1.heap.size) (ndA h2.kind h2.byte h2.set h2.n h2.mn h2.mx kv2) (by omega)
                    have hUF := hU3'.setRow w1.heap.size (ndA h2.kind h2.byte h2.set h2.n h2.mn h2.mx kv2) fun hh => absurd hh (by omega)
                    have hgx4 : (w3.setRow w1.heap.size (ndA h2.kind h2.byte h2.set h2.n h2.mn h2.mx kv2)).heap[w1.heap.size]? = some (.cells (ndA h2.kind h2.byte h2.set h2.n h2.mn h2.mx kv2) 60 (0, 0)) := setRow_heap _ _ _ _ _ _ hgx3
                    have hsz4 : (w3.setRow w1.heap.size (ndA h2.kind h2.byte h2.set h2.n h2.mn h2.mx kv2)).heap.size = w3.heap.size := sz_row _ _ _
                    have hownF := hown4
                    have hRepF := RepK.mono (D' := fun j => w.heap.size ≤ j ∧ (Value.slice a acc.tops.length cp).ownBlock ≠ some j) (fun j hj _ => hj.1) _ _ hRep4
                    have hRF := hR4.mono (D' := fun j => w.heap.size ≤ j ∧ (Value.slice a acc.tops.length cp).ownBlock ≠ some j) (fun j hj _ => (Or.elim hj (fun hj => hj.1) fun hj => ⟨by omega, fun he => by have := (hov j he).2; omega⟩))
                    clear hgx2 hown2 hRep2 hR2 hS2 hU2 hU3 hown3 hRep3 hR3 hS3 hU3' k0 hown4 hRep4 hR4 hgx3 hN2 hN1
                    generalize w3.setRow w1.heap.size (ndA h2.kind h2.byte h2.set h2.n h2.mn h2.mx kv2) = w4 at *
                    have hIF := hI2
                    have hszF : w.heap.size ≤ w4.heap.size := by omega
                    have hN1F := ndA_one h2.kind h2.byte h2.set h2.n h2.mn h2.mx kv2 hRF.one
                    have hownA := ownsRow_keep hownF (Keep.alloc (.cells (ndA h2.kind h2.byte h2.set h2.n h2.mn h2.mx kv2) 60))
                    have hlA : (ndsL acc.tops kvs).length = acc.tops.length * 262 := hownA.1
                    have hnewA : ∀ (j : Nat) (u : Value), (ndHL h2 kv2)[j]? = some u → (w4.alloc (.cells (ndA h2.kind h2.byte h2.set h2.n h2.mn h2.mx kv2) 60)).cell? ((⟨w4.heap.size, 0, none⟩ : Addr).add j) = some u := rnews_row (hq_eq (o := (.cells (ndA h2.kind h2.byte h2.set h2.n h2.mn h2.mx kv2) 60)) rfl)
                    have hbA : w.heap.size ≤ (w4.alloc (.cells (ndA h2.kind h2.byte h2.set h2.n h2.mn h2.mx kv2) 60)).heap.size := by rw [sz_alloc]; omega
                    have hkA : acc.tops.length + 1 ≤ 1002 := by omega
                    have h1A : ∀ u ∈ ndHL h2 kv2, u.oneCell' = true := nds_one hRF.one
                    have hRepA := RepK.keep (Keep.alloc (.cells (ndA h2.kind h2.byte h2.set h2.n h2.mn h2.mx kv2) 60)) _ _ hRepF
                    have hRA := hRF.keep (Keep.alloc (.cells (ndA h2.kind h2.byte h2.set h2.n h2.mn h2.mx kv2) 60))
                    have hSA := hSF.alloc (.cells (ndA h2.kind h2.byte h2.set h2.n h2.mn h2.mx kv2) 60)
                    have hUA := hUF.alloc (.cells (ndA h2.kind h2.byte h2.set h2.n h2.mn h2.mx kv2) 60)
                    go_wp2_with (first
                      | ((with_reducible apply ldRN); (focus rfl); (focus ((try simp (disch := (first | (simp only [sz_alloc, sz_set, sz_row, sz_drew, sz_drewN] <;> omega) | omega)) only [hq_eq, hq_ne, hq_set, hq_row, hq_drew, hq_drewN]) <;> (first | rfl | assumption))); (focus (first | assumption | exact ndA_size _ _ _ _ _ _ _)))
                      | ((with_reducible apply bsRN); (focus rfl); (focus (first | assumption | exact ndA_size _ _ _ _ _ _ _)))
                      | ((refine appendAt w.heap.size (size := 262) (bytes := 320) (ad := ⟨w4.heap.size, 0, none⟩) (m := 1) (c := 1) (n := acc.tops.length) Tryd.underlying35 infoRNSome.choose_spec.1 infoRNSome.choose_spec.2.1 infoRNSome.choose_spec.2.2.1 infoRNSome.choose_spec.2.2.2 (ndA_size _ _ _ _ _ _ _) (by decide) ?_ hownA (ndHL h2 kv2) ?_ (by rw [ndHL_length]) hnewA h1A (by unfold maxLen; omega) (by omega) hbA ?_); exact rfl; exact rfl; intro v' w' hown' hgr' hat'; obtain ⟨a', c', rfl⟩ := own_slice hown'))
                    have hfin := rrow_step (b := b) (n := n) (m := m) (R := R) (st := st2) (begun := false) (h := h2) (k := k2) hXF.out (by omega) hlF.out hIF hkF hk2F.out hSA hownA hRepA hRA hUA hown' hgr' hat'
                    go_roundw
                    case rel => exact hfin.1
                    case measure => rw [HM.out, hfin.2.rM, HB.out]; exact hmF.out
      · have hd1 : decide ((st.pl : Int) < (s.size : Int)) = false := decide_eq_false (by omega)
        have hX : R = (acc, st) := by rw [← HR.out, rRow, if_neg (by rintro ⟨-, h, -⟩; exact hlt h)]
        have HX := Lib.hid hX
        clear hX
        go_wp2_with fail
        go_region
        go_wp2_with fail
        go_ret
        exact HF.out HX.out _ hP.drew (ownsRow_drew hown) hRep.drew hU.drew
theorem rrow_said (s : ByteArray) (hsz : s.size ≤ 1000) : ∀ n, RRowSaid s n := fun n => Nat.strongRecOn n fun n ih => rrow_any s hsz n ih
end Go.Proofs.YtkbfckigndkkkaaDoor
