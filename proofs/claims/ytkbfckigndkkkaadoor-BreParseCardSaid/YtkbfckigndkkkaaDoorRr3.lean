/-
  Walk: the document's reader: a part with its repetitions.
-/
import Derived.Test.YtkbfckigndkkkaaDoorRs
import Derived.Deep.Cut
import Derived.Deep.CutRange
namespace Go.Proofs.YtkbfckigndkkkaaDoor
set_option linter.unusedSimpArgs false
set_option linter.unusedVariables false
open Go Go.RowKit

def badOf (w : World) (b : Nat) : Bool := match w.cell? ⟨b, 1005, none⟩ with | some (.bool x) => x | _ => false
theorem RW.badOf {w : World} {b : Nat} {s : ByteArray} {st : RSt} (h : RW w b s st) : badOf w b = st.bad := by
  unfold Go.Proofs.YtkbfckigndkkkaaDoor.badOf; rw [h.c6]
def rM (s : ByteArray) (b : Nat) (w : World) : Nat := 2 * (s.size - plOf w b) + if badOf w b then 0 else 1
theorem RW.rM {w : World} {b : Nat} {s : ByteArray} {st : RSt} (h : RW w b s st) : rM s b w = 2 * (s.size - st.pl) + if st.bad then 0 else 1 := by
  unfold Go.Proofs.YtkbfckigndkkkaaDoor.rM; rw [h.plOf, h.badOf]
/-- What a method of the reader that hands back a node leaves. -/
def ROut (b : Nat) (s : ByteArray) (D : Nat → Prop) (w : World) (r : (Hd × Fo) × RSt) (e : Ending) (w' : World) : Prop :=
  ∃ kv, e = .returned (.agg (ndH r.1.1 kv)) ∧ Rep (fun j => D j ∨ w.heap.size ≤ j) 60 w' kv r.1.2 ∧ RW w' b s r.2 ∧ Upd (atB b) w w'
structure RTRel (b : Nat) (s : ByteArray) (w : World) (D : Nat → Prop) (R : (Hd × Fo) × RSt) (wr : World) : Prop where
  ex : ∃ (n : Nat) (st : RSt) (h : Hd) (kv : Value) (k : Fo), rTimes s n st h k = R ∧ (s.size - st.pl < n ∨ (st.bad = true ∧ 0 < n)) ∧ RInv s st ∧ RW wr b s st ∧
    wr.heap[w.heap.size]? = some (.cells (ndH h kv) 60 (0, 0)) ∧ (∃ z : Array Value, z.size = 262 ∧ wr.heap[w.heap.size + 1]? = some (.cells z 60 (0, 0))) ∧
    Rep (fun j => (D j ∧ j < w.heap.size) ∨ w.heap.size + 2 ≤ j) 60 wr kv k ∧ Upd (atB b) w wr
/-- One more repetition. -/
theorem rtimes_step {w w1 w2 : World} {b : Nat} {s : ByteArray} {D : Nat → Prop} {R : (Hd × Fo) × RSt} {n : Nat} {st st' : RSt} {h hn : Hd} {kv : Value} {k : Fo} {z : Array Value}
    (hR : rTimes s n st' hn (Fo.one h k) = R) (hl : s.size - st'.pl < n) (hI : RInv s st')
    (hS1 : RW w1 b s st) (hgx : w1.heap[w.heap.size]? = some (.cells (ndH h kv) 60 (0, 0))) (hz : z.size = 262) (hgz : w1.heap[w.heap.size + 1]? = some (.cells z 60 (0, 0)))
    (hRep : Rep (fun j => (D j ∧ j < w.heap.size) ∨ w.heap.size + 2 ≤ j) 60 w1 kv k) (hU : Upd (atB b) w w1) (hsz : w.heap.size + 2 ≤ w1.heap.size) (hb : b < w.heap.size)
    {kv' : Value} (hkv : kv' = .slice (some ⟨w1.heap.size, 0, none⟩) 1 1)
    (hS2 : RW w2 b s st') (hU2 : Upd (atB b) (w1.alloc (.cells (ndH h kv) 60)) w2) :
    RTRel b s w D R (w2.setRow w.heap.size (ndH hn kv')) := by
  subst hkv
  have hk2 : ∀ D, Keep D 60 (w1.alloc (.cells (ndH h kv) 60)) w2 := fun D => keepRN (hS1.alloc _) hU2
  have hgx2 : w2.heap[w.heap.size]? = some (.cells (ndH h kv) 60 (0, 0)) := hk2 (fun _ => True) _ _ _ trivial (by rw [heap_alloc_lt (by omega)]; exact hgx)
  have hgz2 : w2.heap[w.heap.size + 1]? = some (.cells z 60 (0, 0)) := hk2 (fun _ => True) _ _ _ trivial (by rw [heap_alloc_lt (by omega)]; exact hgz)
  have hg2 : w2.heap[w1.heap.size]? = some (.cells (ndH h kv) 60 (0, 0)) := hk2 (fun _ => True) _ _ _ trivial (by (focus ((try simp (disch := (first | (simp only [sz_alloc, sz_set, sz_row, sz_drew, sz_drewN] <;> omega) | omega)) only [hq_eq, hq_ne, hq_set, hq_row, hq_drew, hq_drewN]) <;> (first | rfl | assumption))))
  have hkS : Keep (fun j => (D j ∧ j < w.heap.size) ∨ w.heap.size + 2 ≤ j) 60 w2 (w2.setRow w.heap.size (ndH hn (.slice (some ⟨w1.heap.size, 0, none⟩) 1 1))) := Keep.setRow _ _ fun j hj _ => by omega
  obtain ⟨kk, hk1, hk2'⟩ := hRep
  refine ⟨n, st', hn, _, Fo.one h k, hR, .inl hl, hI, hS2.setRow _ (by omega), setRow_heap _ _ _ _ _ _ hgx2, ⟨z, hz, by rw [hq_row (by omega)]; exact hgz2⟩, ?_, ?_⟩
  · refine Rep.keep ⟨[kv], RowAt.single hg2 (.inr hsz), kv, [], kk, rfl, (hk1.keep (Keep.alloc _)).keep (hk2 _), RepK.keep (hk2 _) _ _ (RepK.keep (Keep.alloc _) _ _ hk2'), rfl⟩ hkS
  · exact ((hU.alloc _).trans hU2).setRow _ _ fun h => absurd h (by omega)
/-- What stays where the reader's block alone is turned. -/
structure RTKeep (b : Nat) (w : World) (D : Nat → Prop) (N z : Array Value) (kv : Value) (k : Fo) (w1 : World) : Prop where
  gx : w1.heap[w.heap.size]? = some (.cells N 60 (0, 0))
  gz : w1.heap[w.heap.size + 1]? = some (.cells z 60 (0, 0))
  rep : Rep (fun j => (D j ∧ j < w.heap.size) ∨ w.heap.size + 2 ≤ j) 60 w1 kv k
  up : Upd (atB b) w w1
theorem RTKeep.next {b : Nat} {w w1 w2 : World} {D : Nat → Prop} {N z : Array Value} {kv : Value} {k : Fo} {s : ByteArray} {st : RSt} (h : RTKeep b w D N z kv k w1) (hP : RW w1 b s st) (hU : Upd (atB b) w1 w2) : RTKeep b w D N z kv k w2 :=
  ⟨keepRN (D := fun _ => True) hP hU _ _ _ trivial h.gx, keepRN (D := fun _ => True) hP hU _ _ _ trivial h.gz, h.rep.keep (keepRN hP hU), h.up.trans hU⟩

theorem Rep.drew {D : Nat → Prop} {e : TypeId} {w : World} {v : Value} {fo : Fo} (h : Rep D e w v fo) : Rep D e w.drew v fo := h.keep fun _ _ _ _ h => h
theorem RW.setBad2 {w : World} {b : Nat} {s : ByteArray} {st : RSt} (h : RW w b s st) (v : Bool) {v' : Bool} (e : v = v') : RW (w.setCell ⟨b, 1005, none⟩ (.bool v)) b s { st with bad := v' } := e ▸ h.setBad v
set_option maxRecDepth 100000 in set_option maxHeartbeats 4000000 in
theorem rtimes_any (w : World) (b : Nat) (s : ByteArray) (st : RSt) (h : Hd) (kv : Value) (k : Fo) (D : Nat → Prop) (n : Nat) (hP : RW w b s st) (hI : RInv s st) (hl : s.size ≤ 1000) (hn : s.size - st.pl < n)
    (hR : Rep D 60 w kv k) :
    Calls Tryd.prog 22 #[.pointer (some ⟨b, 0, none⟩), .agg (ndH h kv)] w (ROut b s D w (rTimes s n st h k)) := by
  have hTR : RTRel b s w D (rTimes s n st h k) ((w.alloc (.cells (ndH h kv) 60)).alloc (.cells (ndA 0 0 noS 0 0 0 (.slice none 0 0)) 60)) := by
    refine ⟨n, st, h, kv, k, rfl, .inl hn, hI, (hP.alloc _).alloc _, (by (focus ((try simp (disch := (first | (simp only [sz_alloc, sz_set, sz_row, sz_drew, sz_drewN] <;> omega) | omega)) only [hq_eq, hq_ne, hq_set, hq_row, hq_drew, hq_drewN]) <;> (first | rfl | assumption)))), ⟨_, ndA_size _ _ _ _ _ _ _, (by (focus ((try simp (disch := (first | (simp only [sz_alloc, sz_set, sz_row, sz_drew, sz_drewN] <;> omega) | omega)) only [hq_eq, hq_ne, hq_set, hq_row, hq_drew, hq_drewN]) <;> (first | rfl | assumption))))⟩,
      ((hR.mono fun j hj hlt => Or.inl ⟨hj, hlt⟩).keep (Keep.alloc _)).keep (Keep.alloc _), ((Upd.refl _ _).alloc _).alloc _⟩
  generalize rTimes s n st h k = R at *
  have hb : b < w.heap.size := hP.lt
  have hN1 : (ndH h kv).all (·.oneCell') = true := ndA_one _ _ _ _ _ _ _ hR.one
  have hNs : (ndH h kv).size = 262 := ndA_size _ _ _ _ _ _ _
  generalize ndH h kv = N at *
  clear hP hI hn hR
  go_enter Tryd.func22, Tryd.ntmps22
  go_wp2_with fail
  go_loopw [] (fun wr => RTRel b s w D R wr) (fun wr => rM s b wr)
  case atStart => exact hTR
  case round =>
    clear hTR hN1 hNs
    obtain ⟨n, st, h, kv, k, hR, hn, hI, hP, hgx, ⟨z, hz, hgz⟩, hRep, hU⟩ := hrel
    obtain ⟨n, rfl⟩ : ∃ n', n = n' + 1 := ⟨n - 1, by omega⟩
    have HR := Lib.hid hR
    clear hR
    have hsz : w.heap.size + 2 ≤ wr.heap.size := by have := lt_of_heap hgz; omega
    have HM := Lib.hid hP.rM
    have c6 := hP.c6
    have hbr := hP.lt
    have hN1 : (ndH h kv).all (·.oneCell') = true := ndA_one _ _ _ _ _ _ _ hRep.one
    have hNs : (ndH h kv).size = 262 := ndA_size _ _ _ _ _ _ _
    cases hbad : st.bad with
    | true =>
      rw [hbad] at c6
      go_wp2_with (first | ((with_reducible apply ldRN); (focus rfl); (focus ((try simp (disch := (first | (simp only [sz_alloc, sz_set, sz_row, sz_drew, sz_drewN] <;> omega) | omega)) only [hq_eq, hq_ne, hq_set, hq_row, hq_drew, hq_drewN]) <;> (first | rfl | assumption))); (focus (first | assumption | exact ndA_size _ _ _ _ _ _ _))) | ((with_reducible apply stRN); (focus rfl); (focus rfl); (focus ((try simp (disch := (first | (simp only [sz_alloc, sz_set, sz_row, sz_drew, sz_drewN] <;> omega) | omega)) only [hq_eq, hq_ne, hq_set, hq_row, hq_drew, hq_drewN]) <;> (first | rfl | assumption))); (focus (first | assumption | exact ndA_size _ _ _ _ _ _ _)); (focus (first | assumption | exact ndA_size _ _ _ _ _ _ _)); (focus (first | assumption | exact ndA_one _ _ _ _ _ _ _ rfl))))
      refine retRN rfl rfl rfl (setRow_heap _ _ _ _ _ _ hgz) hNs ?_
      have e : R = ((h, k), st) := by rw [← HR.out, rTimes, if_pos hbad]
      rw [e]
      exact ⟨kv, rfl, (hRep.keep (Keep.setRow _ _ fun j hj _ => by omega)).mono (fun j hj _ => by rcases hj with hj | hj; exact .inl hj.1; exact .inr (by omega)), hP.setRow _ (by omega), hU.setRow _ _ fun h => absurd h (by omega)⟩
    | false =>
      have hn' : s.size - st.pl < n + 1 := by rcases hn with h | ⟨h, -⟩; exact h; rw [hbad] at h; cases h
      rw [hbad] at c6
      have HBAD := Lib.hid hbad
      clear hbad
      have is1 := fun w (hP : RW w b s st) => ris_any w b s ⟨#[42]⟩ st hP hI.pl hl (by decide)
      have is2 := fun w (hP : RW w b s st) => ris_any w b s ⟨#[92, 123]⟩ st hP hI.pl hl (by decide)
      cases hstar : rIs s st [42] with
      | true =>
        have hst := rIs_len hstar (by decide)
        simp only [List.length_singleton] at hst
        go_wp2_with fail
        refine (is1 _ hP).mono ?_
        rintro e w1 ⟨rfl, rfl⟩
        rw [hstar]
        have hgx1 : wr.drew.heap[w.heap.size]? = _ := hgx
        have hgz1 : wr.drew.heap[w.heap.size + 1]? = _ := hgz
        go_wp2_with (first | ((with_reducible apply ldRN); (focus rfl); (focus ((try simp (disch := (first | (simp only [sz_alloc, sz_set, sz_row, sz_drew, sz_drewN] <;> omega) | omega)) only [hq_eq, hq_ne, hq_set, hq_row, hq_drew, hq_drewN]) <;> (first | rfl | assumption))); (focus (first | assumption | exact ndA_size _ _ _ _ _ _ _))) | ((with_reducible apply bsRN); (focus rfl); (focus (first | assumption | exact ndA_size _ _ _ _ _ _ _))))
        refine (rnode_any _ b s st _ 1 (hP.drew.alloc _) hI hl (by decide) (ndA_size _ _ _ _ _ _ _) (ndA_one _ _ _ _ _ _ _ rfl)).mono ?_
        rintro e w2 ⟨rfl, hS2, hU2⟩
        have hgx2 := keepRN (D := fun _ => True) (hP.drew.alloc _) hU2 _ _ _ trivial (Keep.alloc (D := fun _ => True) _ _ _ _ trivial hgx1)
        go_wp2_with ((with_reducible apply stRN); (focus rfl); (focus rfl); (focus ((try simp (disch := (first | (simp only [sz_alloc, sz_set, sz_row, sz_drew, sz_drewN] <;> omega) | omega)) only [hq_eq, hq_ne, hq_set, hq_row, hq_drew, hq_drewN]) <;> (first | rfl | assumption))); (focus (first | assumption | exact ndA_size _ _ _ _ _ _ _)); (focus (first | assumption | exact ndA_size _ _ _ _ _ _ _)); (focus (first | assumption | exact ndA_one _ _ _ _ _ _ _ rfl)))
        go_roundw
        case rel =>
          have hle := rNode_le (n := 1) hI (by decide) hst
          exact rtimes_step (hn := ⟨8, 0, noS, 0, 0, -1⟩) (n := n) (st' := rNode st 1) (k := k) (by rw [← HR.out, rTimes, if_neg (by rw [HBAD.out]; simp), if_pos hstar]) (by simp only [rNode]; omega) (hle.inv hI) hP.drew hgx1 hz hgz1 hRep.drew hU.drew hsz hb rfl hS2 hU2
        case measure =>
          rw [HM.out, (hS2.setRow _ (by omega)).rM]
          simp only [rNode, HBAD.out]; omega
      | false =>
        go_wp2_with fail
        refine (is1 _ hP).mono ?_
        rintro e w1 ⟨rfl, rfl⟩
        rw [hstar]
        go_wp2_with fail
        refine (is2 _ hP.drew).mono ?_
        rintro e w1 ⟨rfl, rfl⟩
        cases hbr2 : rIs s st [92, 123] with
        | false =>
          have hgx1 : wr.drew.drew.heap[w.heap.size]? = _ := hgx
          have hgz1 : wr.drew.drew.heap[w.heap.size + 1]? = _ := hgz
          go_wp2_with (first | ((with_reducible apply ldRN); (focus rfl); (focus ((try simp (disch := (first | (simp only [sz_alloc, sz_set, sz_row, sz_drew, sz_drewN] <;> omega) | omega)) only [hq_eq, hq_ne, hq_set, hq_row, hq_drew, hq_drewN]) <;> (first | rfl | assumption))); (focus (first | assumption | exact ndA_size _ _ _ _ _ _ _))) | ((with_reducible apply stRN); (focus rfl); (focus rfl); (focus ((try simp (disch := (first | (simp only [sz_alloc, sz_set, sz_row, sz_drew, sz_drewN] <;> omega) | omega)) only [hq_eq, hq_ne, hq_set, hq_row, hq_drew, hq_drewN]) <;> (first | rfl | assumption))); (focus (first | assumption | exact ndA_size _ _ _ _ _ _ _)); (focus (first | assumption | exact ndA_size _ _ _ _ _ _ _)); (focus (first | assumption | exact ndA_one _ _ _ _ _ _ _ rfl))))
          refine retRN rfl rfl rfl (setRow_heap _ _ _ _ _ _ hgz1) hNs ?_
          have e : R = ((h, k), st) := by rw [← HR.out, rTimes, if_neg (by rw [HBAD.out]; simp), if_neg (by rw [hstar]; simp), if_neg (by rw [hbr2]; simp)]
          rw [e]
          exact ⟨kv, rfl, (Rep.keep (w := wr.drew.drew) hRep.drew.drew (Keep.setRow (D := fun j => (D j ∧ j < w.heap.size) ∨ w.heap.size + 2 ≤ j) _ _ fun j hj _ => by omega)).mono (fun j hj _ => by rcases hj with hj | hj; exact .inl hj.1; exact .inr (by omega)), hP.drew.drew.setRow _ (by omega), hU.drew.drew.setRow _ _ fun h => absurd h (by omega)⟩
        | true =>
          have hst := rIs_len hbr2 (by decide)
          simp only [List.length_cons, List.length_nil, Nat.zero_add, Nat.reduceAdd] at hst
          have hK0 : RTKeep b w D (ndH h kv) z kv k wr.drew.drew := ⟨hgx, hgz, hRep.drew.drew, hU.drew.drew⟩
          have hP0 := hP.drew.drew
          have c1 : wr.drew.drew.cell? ⟨b, 1, none⟩ = some (.int .i64 (st.pl : Int)) := hP.c1
          have f1 : wr.drew.drew.frozen? ⟨b, 1, none⟩ = false := hP.free 1
          have hbb : b < wr.drew.drew.heap.size := hbr
          clear hgx hgz hRep hU hP hbr is1 is2 c6
          generalize wr.drew.drew = wa at *
          have hP1 := hP0.setPl (p := (st.pl : Int) + 2) (st.pl + 2) (by simp)
          have hK1 := hK0.next hP0 ((Upd.refl _ wa).setCell ⟨b, 1, none⟩ (.int .i64 ((st.pl : Int) + 2)) fun _ => rfl)
          have hI1 : RInv s { st with pl := st.pl + 2 } := ⟨by simpa using hst, by have := hI.many; simp only; omega, hI.g⟩
          have hbad1 : ({ st with pl := st.pl + 2 } : RSt).bad = false := HBAD.out
          have hge1 : st.pl + 2 ≤ ({ st with pl := st.pl + 2 } : RSt).pl := Nat.le_refl _
          have HR2 : Hid (R = if (rBraceBad s { st with pl := st.pl + 2 }).bad then ((h, k), rBraceBad s { st with pl := st.pl + 2 }) else rTimes s n (rNode (rBraceBad s { st with pl := st.pl + 2 }) 2) ⟨8, 0, noS, 0, (rBrace s { st with pl := st.pl + 2 }).1, (rBrace s { st with pl := st.pl + 2 }).2.1⟩ (Fo.one h k)) :=
            Lib.hid (by rw [← HR.out, rTimes, if_neg (by rw [HBAD.out]; simp), if_neg (by rw [hstar]; simp), if_pos hbr2])
          generalize ({ st with pl := st.pl + 2 } : RSt) = sa at *
          have hpb : st.pl + 2 ≤ 1000 := by omega
          clear hst hbr2 hstar HR
          go_wp2_with fail
          refine (rdigits_any _ b s sa hP1 hI1.pl hl).mono ?_
          rintro e wb ⟨rfl, hP2, hU2⟩
          have hK2 := hK1.next hP1 hU2
          have hle2 := rDig_le hI1
          have hI2 := hle2.inv hI1
          have hmb := digVal_bd s sa (rDs s sa).length
          rw [List.take_length] at hmb
          obtain ⟨ok, hok⟩ : ∃ ok, decide (rDs s sa ≠ []) = ok := ⟨_, rfl⟩
          obtain ⟨m, hm⟩ : ∃ m, digVal (rDs s sa) = m := ⟨_, rfl⟩
          rw [hok, hm]
          rw [hm] at hmb
          have HOK := Lib.hid hok
          have HMV := Lib.hid hm
          clear hK0 hP0 c1 f1 hbb hP1 hK1 hU2 hok hm
          go_wp2_with fail
          refine (ris_any wb b s ⟨#[44]⟩ _ hP2 hI2.pl hl (by decide)).mono ?_
          rintro e w1 ⟨rfl, rfl⟩
          rw [show ((⟨#[44]⟩ : ByteArray).data.toList) = [44] from rfl]
          have hP3 := hP2.drew
          have hK3 := hK2.next hP2 (Upd.refl _ wb).drew
          have hbadD : (rDig s sa).bad = false := hbad1
          clear hP2 hK2
          generalize wb.drew = wt at *
          cases hcom : rIs s (rDig s sa) [44] with
          | true =>
            have hl2 := rIs_len hcom (by decide)
            simp only [List.length_singleton] at hl2
            have c1 := hP3.c1
            have f1 := hP3.free 1
            have hbb := hP3.lt
            have hP4 := hP3.setPl (p := ((rDig s sa).pl : Int) + 1) ((rDig s sa).pl + 1) (by simp)
            have hK4 := hK3.next hP3 ((Upd.refl _ wt).setCell ⟨b, 1, none⟩ (.int .i64 (((rDig s sa).pl : Int) + 1)) fun _ => rfl)
            have hI4 : RInv s { rDig s sa with pl := (rDig s sa).pl + 1 } := ⟨by simpa using hl2, by have := hI2.many; simp only; omega, hI2.g⟩
            have hle4 : RLe s (rDig s sa) { rDig s sa with pl := (rDig s sa).pl + 1 } := ⟨by simp, by simp only; omega, by simpa using hl2, Nat.le_refl _, hI2.g⟩
            have hbad4 : ({ rDig s sa with pl := (rDig s sa).pl + 1 } : RSt).bad = false := hbadD
            have eB : rBrace s sa = (m, (if rDs s { rDig s sa with pl := (rDig s sa).pl + 1 } ≠ [] then digVal (rDs s { rDig s sa with pl := (rDig s sa).pl + 1 }) else -1), rDig s { rDig s sa with pl := (rDig s sa).pl + 1 }) := by unfold rBrace; rw [if_pos hcom, HMV.out]
            generalize ({ rDig s sa with pl := (rDig s sa).pl + 1 } : RSt) = sb at *
            have hpb2 : (rDig s sa).pl + 1 ≤ 1000 := by omega
            generalize hpd : (rDig s sa).pl = pd at *
            have EB := Lib.hid eB
            clear eB hcom hl2 hP3 hK3
            go_wp2_with fail
            refine (rdigits_any _ b s sb hP4 hI4.pl hl).mono ?_
            rintro e wd ⟨rfl, hP5, hU5⟩
            have hK5 := hK4.next hP4 hU5
            have hle5 := rDig_le hI4
            have hI5 := hle5.inv hI4
            have hmb5 := digVal_bd s sb (rDs s sb).length
            rw [List.take_length] at hmb5
            clear c1 f1 hbb hP4 hK4 hU5
            obtain ⟨k5, hk5⟩ : ∃ m, digVal (rDs s sb) = m := ⟨_, rfl⟩
            rw [hk5] at hmb5 ⊢
            cases his : decide (rDs s sb ≠ []) with
            | true =>
              have hB := EB.out
              rw [if_pos (of_decide_eq_true his), hk5] at hB
              have HB := Lib.hid hB
              clear hB hk5 his EB
              have hPx := hP5
              have hKx := hK5
              have hIx := hI5
              have hbadx : (rDig s sb).bad = false := hbad4
              go_upto_region 15 with fail
              have hsame : rBraceBad s sa = { (rDig s sb) with bad := rBad s (rDig s sb) m k5 ok } := by unfold rBraceBad; rw [HB.out, HOK.out]
              have hc6 := hPx.c6
              rw [hbadx] at hc6
              have hf6 := hPx.free 1005
              have hbb := hPx.lt
              have hc6d : wd.drew.cell? ⟨b, 1005, none⟩ = some (.bool false) := hc6
              have hf6d : wd.drew.frozen? ⟨b, 1005, none⟩ = false := hf6
              have hbbd : b < wd.drew.heap.size := hbb
              have is3 : Calls Tryd.prog 20 #[.pointer (some ⟨b, 0, none⟩), .string ⟨#[92, 125]⟩] wd fun e w' => e = .returned (.bool (rIs s (rDig s sb) [92, 125])) ∧ w' = wd.drew := ris_any wd b s ⟨#[92, 125]⟩ _ hPx hIx.pl hl (by decide)
              go_cut [5, 7] from 10 to 100 (fun v5 v7 wx => v5 = .int .i64 m ∧ v7 = .int .i64 k5 ∧ RW wx b s { (rDig s sb) with bad := rBad s (rDig s sb) m k5 ok } ∧ Upd (atB b) wd wx)
              case first =>
                cases ok with
                | false =>
                  go_wp2_with fail
                  go_meet
                  exact ⟨rfl, rfl, RW.setBad2 hPx true (by simp [rBad]), (Upd.refl _ _).setCell ⟨b, 1005, none⟩ _ fun _ => rfl⟩
                | true =>
                  cases hi : rIs s (rDig s sb) [92, 125] with
                  | false =>
                    rw [hi] at is3
                    go_wp2_with (go_at_call 20; refine is3.mono ?_; rintro e w1 ⟨rfl, rfl⟩)
                    go_meet
                    exact ⟨rfl, rfl, RW.setBad2 hPx.drew true (by simp [rBad, hi]), (Upd.refl _ _).drew.setCell ⟨b, 1005, none⟩ _ fun _ => rfl⟩
                  | true =>
                    rw [hi] at is3
                    go_wp2_with (go_at_call 20; refine is3.mono ?_; rintro e w1 ⟨rfl, rfl⟩)
                    all_goals go_meet
                    all_goals (refine ⟨rfl, rfl, RW.setBad2 hPx.drew _ ?_, (Upd.refl _ _).drew.setCell ⟨b, 1005, none⟩ _ fun _ => rfl⟩)
                    all_goals (rw [Bool.eq_iff_iff]; unfold rBad; rw [hi]; simp only [Bool.or_eq_true, Bool.and_eq_true, Bool.not_true, Bool.false_eq_true, decide_eq_true_eq, false_or])
                    all_goals (first | omega | (simp <;> omega) | trace_state)
              case rest =>
                obtain ⟨rfl, rfl, hPy, hUy⟩ := hcut
                have hKy := hKx.next hPx hUy
                have hPy : RW wc b s (rBraceBad s sa) := by rw [hsame]; exact hPy
                have hleX := rBraceBad_le hI1
                have hIX := hleX.inv hI1
                have hplX := hleX.pl
                have hB1 : (rBrace s sa).1 = m := by rw [HB.out]
                have hB2 : (rBrace s sa).2.1 = k5 := by rw [HB.out]
                have hrb := @rBrace_bad s sa
                have hr2 := HR2.out
                rw [hB1, hB2] at hr2
                have HR3 := Lib.hid hr2
                clear hB1 hB2 hr2 HR2 HB hsame hc6 hf6 hbb hc6d hf6d hbbd is3 hPx hKx hUy
                generalize rBraceBad s sa = X at *
                have hc6 := hPy.c6
                have hbb := hPy.lt
                cases hbx : X.bad with
                | true =>
                  rw [hbx] at hc6
                  have HBX := Lib.hid hbx
                  clear hbx
                  go_wp2_with fail
                  go_roundw
                  case rel => exact ⟨1, X, h, kv, k, by rw [HR3.out, if_pos HBX.out, rTimes, if_pos HBX.out], .inr ⟨HBX.out, by decide⟩, hIX, hPy, hKy.gx, ⟨z, hz, hKy.gz⟩, hKy.rep, hKy.up⟩
                  case measure =>
                    rw [HM.out, hPy.rM, HBX.out, HBAD.out]
                    simp only [if_true, Bool.false_eq_true, if_false]; omega
                | false =>
                  rw [hbx] at hc6
                  have h2 := rIs_len (hrb hbx) (by decide)
                  simp only [List.length_cons, List.length_nil, Nat.zero_add, Nat.reduceAdd] at h2
                  have HBX := Lib.hid hbx
                  clear hbx hrb
                  have hgx1 := hKy.gx
                  have hgz1 := hKy.gz
                  have hszc : w.heap.size + 2 ≤ wc.heap.size := by have := lt_of_heap hgz1; omega
                  go_wp2_with (first | ((with_reducible apply ldRN); (focus rfl); (focus ((try simp (disch := (first | (simp only [sz_alloc, sz_set, sz_row, sz_drew, sz_drewN] <;> omega) | omega)) only [hq_eq, hq_ne, hq_set, hq_row, hq_drew, hq_drewN]) <;> (first | rfl | assumption))); (focus (first | assumption | exact ndA_size _ _ _ _ _ _ _))) | ((with_reducible apply bsRN); (focus rfl); (focus (first | assumption | exact ndA_size _ _ _ _ _ _ _))))
                  refine (rnode_any _ b s X _ 2 (hPy.alloc _) hIX hl (by decide) (ndA_size _ _ _ _ _ _ _) (ndA_one _ _ _ _ _ _ _ rfl)).mono ?_
                  rintro e w2 ⟨rfl, hS2, hU2⟩
                  have hgx2 := keepRN (D := fun _ => True) (hPy.alloc _) hU2 _ _ _ trivial (Keep.alloc (D := fun _ => True) _ _ _ _ trivial hgx1)
                  go_wp2_with ((with_reducible apply stRN); (focus rfl); (focus rfl); (focus ((try simp (disch := (first | (simp only [sz_alloc, sz_set, sz_row, sz_drew, sz_drewN] <;> omega) | omega)) only [hq_eq, hq_ne, hq_set, hq_row, hq_drew, hq_drewN]) <;> (first | rfl | assumption))); (focus (first | assumption | exact ndA_size _ _ _ _ _ _ _)); (focus (first | assumption | exact ndA_size _ _ _ _ _ _ _)); (focus (first | assumption | exact ndA_one _ _ _ _ _ _ _ rfl)))
                  go_roundw
                  case rel =>
                    have hle := rNode_le (n := 2) hIX (by decide) h2
                    exact rtimes_step (hn := ⟨8, 0, noS, 0, m, k5⟩) (n := n) (st' := rNode X 2) (k := k) (by rw [HR3.out, if_neg (by rw [HBX.out]; simp)]) (by simp only [rNode]; omega) (hle.inv hIX) hPy hgx1 hz hgz1 hKy.rep hKy.up hszc hb rfl hS2 hU2
                  case measure =>
                    rw [HM.out, (hS2.setRow _ (by omega)).rM]
                    simp only [rNode, HBX.out, HBAD.out]; omega
            | false =>
              have hB := EB.out
              rw [if_neg (of_decide_eq_false his)] at hB
              have HB := Lib.hid hB
              clear hB hk5 his EB
              have hPx := hP5
              have hKx := hK5
              have hIx := hI5
              have hbadx : (rDig s sb).bad = false := hbad4
              go_upto_region 15 with fail
              have hsame : rBraceBad s sa = { (rDig s sb) with bad := rBad s (rDig s sb) m (-1) ok } := by unfold rBraceBad; rw [HB.out, HOK.out]
              have hc6 := hPx.c6
              rw [hbadx] at hc6
              have hf6 := hPx.free 1005
              have hbb := hPx.lt
              have hc6d : wd.drew.cell? ⟨b, 1005, none⟩ = some (.bool false) := hc6
              have hf6d : wd.drew.frozen? ⟨b, 1005, none⟩ = false := hf6
              have hbbd : b < wd.drew.heap.size := hbb
              have is3 : Calls Tryd.prog 20 #[.pointer (some ⟨b, 0, none⟩), .string ⟨#[92, 125]⟩] wd fun e w' => e = .returned (.bool (rIs s (rDig s sb) [92, 125])) ∧ w' = wd.drew := ris_any wd b s ⟨#[92, 125]⟩ _ hPx hIx.pl hl (by decide)
              go_cut [5, 7] from 10 to 100 (fun v5 v7 wx => v5 = .int .i64 m ∧ v7 = .int .i64 (-1) ∧ RW wx b s { (rDig s sb) with bad := rBad s (rDig s sb) m (-1) ok } ∧ Upd (atB b) wd wx)
              case first =>
                cases ok with
                | false =>
                  go_wp2_with fail
                  go_meet
                  exact ⟨rfl, rfl, RW.setBad2 hPx true (by simp [rBad]), (Upd.refl _ _).setCell ⟨b, 1005, none⟩ _ fun _ => rfl⟩
                | true =>
                  cases hi : rIs s (rDig s sb) [92, 125] with
                  | false =>
                    rw [hi] at is3
                    go_wp2_with (go_at_call 20; refine is3.mono ?_; rintro e w1 ⟨rfl, rfl⟩)
                    go_meet
                    exact ⟨rfl, rfl, RW.setBad2 hPx.drew true (by simp [rBad, hi]), (Upd.refl _ _).drew.setCell ⟨b, 1005, none⟩ _ fun _ => rfl⟩
                  | true =>
                    rw [hi] at is3
                    go_wp2_with (go_at_call 20; refine is3.mono ?_; rintro e w1 ⟨rfl, rfl⟩)
                    all_goals go_meet
                    all_goals (refine ⟨rfl, rfl, RW.setBad2 hPx.drew _ ?_, (Upd.refl _ _).drew.setCell ⟨b, 1005, none⟩ _ fun _ => rfl⟩)
                    all_goals (rw [Bool.eq_iff_iff]; unfold rBad; rw [hi]; simp only [Bool.or_eq_true, Bool.and_eq_true, Bool.not_true, Bool.false_eq_true, decide_eq_true_eq, false_or])
                    all_goals (first | omega | (simp <;> omega) | trace_state)
              case rest =>
                obtain ⟨rfl, rfl, hPy, hUy⟩ := hcut
                have hKy := hKx.next hPx hUy
                have hPy : RW wc b s (rBraceBad s sa) := by rw [hsame]; exact hPy
                have hleX := rBraceBad_le hI1
                have hIX := hleX.inv hI1
                have hplX := hleX.pl
                have hB1 : (rBrace s sa).1 = m := by rw [HB.out]
                have hB2 : (rBrace s sa).2.1 = (-1) := by rw [HB.out]
                have hrb := @rBrace_bad s sa
                have hr2 := HR2.out
                rw [hB1, hB2] at hr2
                have HR3 := Lib.hid hr2
                clear hB1 hB2 hr2 HR2 HB hsame hc6 hf6 hbb hc6d hf6d hbbd is3 hPx hKx hUy
                generalize rBraceBad s sa = X at *
                have hc6 := hPy.c6
                have hbb := hPy.lt
                cases hbx : X.bad with
                | true =>
                  rw [hbx] at hc6
                  have HBX := Lib.hid hbx
                  clear hbx
                  go_wp2_with fail
                  go_roundw
                  case rel => exact ⟨1, X, h, kv, k, by rw [HR3.out, if_pos HBX.out, rTimes, if_pos HBX.out], .inr ⟨HBX.out, by decide⟩, hIX, hPy, hKy.gx, ⟨z, hz, hKy.gz⟩, hKy.rep, hKy.up⟩
                  case measure =>
                    rw [HM.out, hPy.rM, HBX.out, HBAD.out]
                    simp only [if_true, Bool.false_eq_true, if_false]; omega
                | false =>
                  rw [hbx] at hc6
                  have h2 := rIs_len (hrb hbx) (by decide)
                  simp only [List.length_cons, List.length_nil, Nat.zero_add, Nat.reduceAdd] at h2
                  have HBX := Lib.hid hbx
                  clear hbx hrb
                  have hgx1 := hKy.gx
                  have hgz1 := hKy.gz
                  have hszc : w.heap.size + 2 ≤ wc.heap.size := by have := lt_of_heap hgz1; omega
                  go_wp2_with (first | ((with_reducible apply ldRN); (focus rfl); (focus ((try simp (disch := (first | (simp only [sz_alloc, sz_set, sz_row, sz_drew, sz_drewN] <;> omega) | omega)) only [hq_eq, hq_ne, hq_set, hq_row, hq_drew, hq_drewN]) <;> (first | rfl | assumption))); (focus (first | assumption | exact ndA_size _ _ _ _ _ _ _))) | ((with_reducible apply bsRN); (focus rfl); (focus (first | assumption | exact ndA_size _ _ _ _ _ _ _))))
                  refine (rnode_any _ b s X _ 2 (hPy.alloc _) hIX hl (by decide) (ndA_size _ _ _ _ _ _ _) (ndA_one _ _ _ _ _ _ _ rfl)).mono ?_
                  rintro e w2 ⟨rfl, hS2, hU2⟩
                  have hgx2 := keepRN (D := fun _ => True) (hPy.alloc _) hU2 _ _ _ trivial (Keep.alloc (D := fun _ => True) _ _ _ _ trivial hgx1)
                  go_wp2_with ((with_reducible apply stRN); (focus rfl); (focus rfl); (focus ((try simp (disch := (first | (simp only [sz_alloc, sz_set, sz_row, sz_drew, sz_drewN] <;> omega) | omega)) only [hq_eq, hq_ne, hq_set, hq_row, hq_drew, hq_drewN]) <;> (first | rfl | assumption))); (focus (first | assumption | exact ndA_size _ _ _ _ _ _ _)); (focus (first | assumption | exact ndA_size _ _ _ _ _ _ _)); (focus (first | assumption | exact ndA_one _ _ _ _ _ _ _ rfl)))
                  go_roundw
                  case rel =>
                    have hle := rNode_le (n := 2) hIX (by decide) h2
                    exact rtimes_step (hn := ⟨8, 0, noS, 0, m, (-1)⟩) (n := n) (st' := rNode X 2) (k := k) (by rw [HR3.out, if_neg (by rw [HBX.out]; simp)]) (by simp only [rNode]; omega) (hle.inv hIX) hPy hgx1 hz hgz1 hKy.rep hKy.up hszc hb rfl hS2 hU2
                  case measure =>
                    rw [HM.out, (hS2.setRow _ (by omega)).rM]
                    simp only [rNode, HBX.out, HBAD.out]; omega
          | false =>
            have hB : rBrace s sa = (m, m, rDig s sa) := by unfold rBrace; rw [if_neg (by rw [hcom]; simp), HMV.out]
            have HB := Lib.hid hB
            clear hB hcom
            have hPx := hP3
            have hKx := hK3
            have hIx := hI2
            have hbadx := hbadD
            have hgx := hge1
            go_upto_region 15 with fail
            have hsame : rBraceBad s sa = { (rDig s sa) with bad := rBad s (rDig s sa) m m ok } := by unfold rBraceBad; rw [HB.out, HOK.out]
            have hc6 := hPx.c6
            rw [hbadx] at hc6
            have hf6 := hPx.free 1005
            have hbb := hPx.lt
            have hc6d : wt.drew.cell? ⟨b, 1005, none⟩ = some (.bool false) := hc6
            have hf6d : wt.drew.frozen? ⟨b, 1005, none⟩ = false := hf6
            have hbbd : b < wt.drew.heap.size := hbb
            have is3 : Calls Tryd.prog 20 #[.pointer (some ⟨b, 0, none⟩), .string ⟨#[92, 125]⟩] wt fun e w' => e = .returned (.bool (rIs s (rDig s sa) [92, 125])) ∧ w' = wt.drew := ris_any wt b s ⟨#[92, 125]⟩ _ hPx hIx.pl hl (by decide)
            go_cut [5, 7] from 10 to 100 (fun v5 v7 wx => v5 = .int .i64 m ∧ v7 = .int .i64 m ∧ RW wx b s { (rDig s sa) with bad := rBad s (rDig s sa) m m ok } ∧ Upd (atB b) wt wx)
            case first =>
              cases ok with
              | false =>
                go_wp2_with fail
                go_meet
                exact ⟨rfl, rfl, RW.setBad2 hPx true (by simp [rBad]), (Upd.refl _ _).setCell ⟨b, 1005, none⟩ _ fun _ => rfl⟩
              | true =>
                cases hi : rIs s (rDig s sa) [92, 125] with
                | false =>
                  rw [hi] at is3
                  go_wp2_with (go_at_call 20; refine is3.mono ?_; rintro e w1 ⟨rfl, rfl⟩)
                  go_meet
                  exact ⟨rfl, rfl, RW.setBad2 hPx.drew true (by simp [rBad, hi]), (Upd.refl _ _).drew.setCell ⟨b, 1005, none⟩ _ fun _ => rfl⟩
                | true =>
                  rw [hi] at is3
                  go_wp2_with (go_at_call 20; refine is3.mono ?_; rintro e w1 ⟨rfl, rfl⟩)
                  all_goals go_meet
                  all_goals (refine ⟨rfl, rfl, RW.setBad2 hPx.drew _ ?_, (Upd.refl _ _).drew.setCell ⟨b, 1005, none⟩ _ fun _ => rfl⟩)
                  all_goals (rw [Bool.eq_iff_iff]; unfold rBad; rw [hi]; simp only [Bool.or_eq_true, Bool.and_eq_true, Bool.not_true, Bool.false_eq_true, decide_eq_true_eq, false_or])
                  all_goals (first | omega | (simp <;> omega) | trace_state)
            case rest =>
              obtain ⟨rfl, rfl, hPy, hUy⟩ := hcut
              have hKy := hKx.next hPx hUy
              have hPy : RW wc b s (rBraceBad s sa) := by rw [hsame]; exact hPy
              have hleX := rBraceBad_le hI1
              have hIX := hleX.inv hI1
              have hplX := hleX.pl
              have hB1 : (rBrace s sa).1 = m := by rw [HB.out]
              have hB2 : (rBrace s sa).2.1 = m := by rw [HB.out]
              have hrb := @rBrace_bad s sa
              have hr2 := HR2.out
              rw [hB1, hB2] at hr2
              have HR3 := Lib.hid hr2
              clear hB1 hB2 hr2 HR2 HB hsame hc6 hf6 hbb hc6d hf6d hbbd is3 hPx hKx hUy
              generalize rBraceBad s sa = X at *
              have hc6 := hPy.c6
              have hbb := hPy.lt
              cases hbx : X.bad with
              | true =>
                rw [hbx] at hc6
                have HBX := Lib.hid hbx
                clear hbx
                go_wp2_with fail
                go_roundw
                case rel => exact ⟨1, X, h, kv, k, by rw [HR3.out, if_pos HBX.out, rTimes, if_pos HBX.out], .inr ⟨HBX.out, by decide⟩, hIX, hPy, hKy.gx, ⟨z, hz, hKy.gz⟩, hKy.rep, hKy.up⟩
                case measure =>
                  rw [HM.out, hPy.rM, HBX.out, HBAD.out]
                  simp only [if_true, Bool.false_eq_true, if_false]; omega
              | false =>
                rw [hbx] at hc6
                have h2 := rIs_len (hrb hbx) (by decide)
                simp only [List.length_cons, List.length_nil, Nat.zero_add, Nat.reduceAdd] at h2
                have HBX := Lib.hid hbx
                clear hbx hrb
                have hgx1 := hKy.gx
                have hgz1 := hKy.gz
                have hszc : w.heap.size + 2 ≤ wc.heap.size := by have := lt_of_heap hgz1; omega
                go_wp2_with (first | ((with_reducible apply ldRN); (focus rfl); (focus ((try simp (disch := (first | (simp only [sz_alloc, sz_set, sz_row, sz_drew, sz_drewN] <;> omega) | omega)) only [hq_eq, hq_ne, hq_set, hq_row, hq_drew, hq_drewN]) <;> (first | rfl | assumption))); (focus (first | assumption | exact ndA_size _ _ _ _ _ _ _))) | ((with_reducible apply bsRN); (focus rfl); (focus (first | assumption | exact ndA_size _ _ _ _ _ _ _))))
                refine (rnode_any _ b s X _ 2 (hPy.alloc _) hIX hl (by decide) (ndA_size _ _ _ _ _ _ _) (ndA_one _ _ _ _ _ _ _ rfl)).mono ?_
                rintro e w2 ⟨rfl, hS2, hU2⟩
                have hgx2 := keepRN (D := fun _ => True) (hPy.alloc _) hU2 _ _ _ trivial (Keep.alloc (D := fun _ => True) _ _ _ _ trivial hgx1)
                go_wp2_with ((with_reducible apply stRN); (focus rfl); (focus rfl); (focus ((try simp (disch := (first | (simp only [sz_alloc, sz_set, sz_row, sz_drew, sz_drewN] <;> omega) | omega)) only [hq_eq, hq_ne, hq_set, hq_row, hq_drew, hq_drewN]) <;> (first | rfl | assumption))); (focus (first | assumption | exact ndA_size _ _ _ _ _ _ _)); (focus (first | assumption | exact ndA_size _ _ _ _ _ _ _)); (focus (first | assumption | exact ndA_one _ _ _ _ _ _ _ rfl)))
                go_roundw
                case rel =>
                  have hle := rNode_le (n := 2) hIX (by decide) h2
                  exact rtimes_step (hn := ⟨8, 0, noS, 0, m, m⟩) (n := n) (st' := rNode X 2) (k := k) (by rw [HR3.out, if_neg (by rw [HBX.out]; simp)]) (by simp only [rNode]; omega) (hle.inv hIX) hPy hgx1 hz hgz1 hKy.rep hKy.up hszc hb rfl hS2 hU2
                case measure =>
                  rw [HM.out, (hS2.setRow _ (by omega)).rM]
                  simp only [rNode, HBX.out, HBAD.out]; omega
end Go.Proofs.YtkbfckigndkkkaaDoor
