/-
  Walks: the parser's numbers and repetitions.
-/
import Derived.Test.YtkbfckigndkkkaaDoorBw1
import Derived.Deep.DeepCutAuto
import Derived.BigQuiet
namespace Go.Proofs.YtkbfckigndkkkaaDoor
set_option linter.unusedSimpArgs false
set_option linter.unusedVariables false
open Go Go.RowKit

set_option maxRecDepth 100000 in
theorem isDig_eq (c : UInt8) : ([48, 49, 50, 51, 52, 53, 54, 55, 56, 57] : List UInt8).contains c = isDig c := by
  have h : ∀ n : Fin 256, ([48, 49, 50, 51, 52, 53, 54, 55, 56, 57] : List UInt8).contains (UInt8.ofNat n.val) = isDig (UInt8.ofNat n.val) := by decide
  have := h ⟨c.toNat, c.toNat_lt⟩
  simpa using this
theorem trimDigits (l : List UInt8) : Lib.trimLeftS l [48, 49, 50, 51, 52, 53, 54, 55, 56, 57] = l.dropWhile isDig := by
  unfold Lib.trimLeftS
  congr 1
  funext c
  exact isDig_eq c
theorem digits_ascii : ∀ (j : Nat) b, (⟨#[48, 49, 50, 51, 52, 53, 54, 55, 56, 57]⟩ : ByteArray).data.toList[j]? = some b → b.toNat < 128 := by
  intro j b h
  have hm := List.mem_of_getElem? h
  revert b
  have : ∀ b ∈ ([48, 49, 50, 51, 52, 53, 54, 55, 56, 57] : List UInt8), b.toNat < 128 := by decide
  intro b _ hm
  exact this b hm
theorem takeWhile_len (p : UInt8 → Bool) (l : List UInt8) : l.take (l.length - (l.dropWhile p).length) = l.takeWhile p := by
  have h := List.takeWhile_append_dropWhile (p := p) (l := l)
  have h2 : l.length = (l.takeWhile p).length + (l.dropWhile p).length := by
    have := congrArg List.length h; rw [List.length_append] at this; exact this.symm
  rw [h2, Nat.add_sub_cancel]
  conv => lhs; arg 2; rw [← h]
  exact List.take_left

/-- How far a string's iterator has come. -/
def posOf (w : World) (b : Nat) : Nat := match w.heap[b]? with | some (.stringIter _ pos) => pos | _ => 0
theorem posOf_iter (W : World) (D : ByteArray) (k n : Nat) (h : W.heap.size = n) : posOf (W.iter D k) n = k := by
  subst h; simp [posOf, World.iter_heap]
theorem numVal_bd (l : List UInt8) : ∀ n : Int, 0 ≤ n → n ≤ 256 → (∀ c ∈ l, isDig c = true) → 0 ≤ l.foldl (fun n c => min (10 * n + ((c.toNat : Int) - 48)) 256) n ∧ l.foldl (fun n c => min (10 * n + ((c.toNat : Int) - 48)) 256) n ≤ 256 := by
  induction l with
  | nil => intro n h0 h1 _; exact ⟨h0, h1⟩
  | cons c l ih =>
    intro n h0 h1 hc
    have hd := hc c (List.mem_cons_self ..)
    simp only [isDig, between, Bool.and_eq_true, decide_eq_true_eq] at hd
    refine ih _ ?_ ?_ fun c' hc' => hc c' (List.mem_cons_of_mem _ hc')
    · show 0 ≤ min (10 * n + ((c.toNat : Int) - 48)) 256; omega
    · show min (10 * n + ((c.toNat : Int) - 48)) 256 ≤ 256; omega
theorem numVal_snoc (l : List UInt8) (c : UInt8) : numVal (l ++ [c]) = min (10 * numVal l + ((c.toNat : Int) - 48)) 256 := by
  simp [numVal]
theorem takeWhile_all (p : UInt8 → Bool) (l : List UInt8) : ∀ c ∈ l.takeWhile p, p c = true := by
  induction l with
  | nil => intro c hc; simp at hc
  | cons x l ih =>
    intro c hc
    rw [List.takeWhile_cons] at hc
    split at hc
    · rename_i hx
      rcases List.mem_cons.1 hc with rfl | h
      · exact hx
      · exact ih c h
    · simp at hc
set_option maxRecDepth 100000 in set_option maxHeartbeats 400000 in
theorem number_any (w : World) (b : Nat) (s : ByteArray) (g m : Int) (r : Bool) (ov : Value) (hP : PW w b s g m r ov) (hsz : s.size ≤ 1000) :
    Calls Tryd.prog 30 #[.pointer (some ⟨b, 0, none⟩)] w fun e w' => e = .returned (.tuple #[.int .i64 (numVal (s.data.toList.takeWhile isDig)), .bool (decide (s.data.toList.takeWhile isDig ≠ []))]) ∧
      (∃ s', s'.data.toList = s.data.toList.dropWhile isDig ∧ PW w' b s' g m r ov) ∧ Upd (atB b) w w' := by
  have hb := hP.lt
  obtain ⟨c0, -, -, -, -⟩ := hP.cells
  obtain ⟨f0, -, -, -, -⟩ := hP.free
  go_enter Tryd.func30, Tryd.ntmps30
  go_wp2_with fail
  refine (Tryd.strings_TrimLeft_laid s _ _ (by decide) digits_ascii).mono ?_
  rintro e w1 ⟨rfl, hB⟩
  rw [trimDigits]
  generalize hR : (⟨(s.data.toList.dropWhile isDig).toArray⟩ : ByteArray) = R
  have hRl : R.data.toList = s.data.toList.dropWhile isDig := by rw [← hR]
  have hle : R.size ≤ s.size := by
    rw [bytes_len, bytes_len, hRl]; exact (List.dropWhile_sublist _).length_le
  have HR := Lib.hid hRl
  clear hRl hR
  have hP1 := hP.below hB
  have hb1 := hP1.lt
  obtain ⟨c1, -, -, -, -⟩ := hP1.cells
  obtain ⟨f1, -, -, -, -⟩ := hP1.free
  have hi0 : 0 ≤ (s.size : Int) - R.size := by omega
  have hi1 : (s.size : Int) - R.size ≤ s.size := by omega
  have hi2 : IntKind.i64.wrap ((s.size : Int) - R.size) = (s.size : Int) - R.size := IntWalk.i64_in _ (by omega)
  have hi3 : ((s.size : Int) - R.size).toNat = s.size - R.size := by omega
  go_wp2_with fail
  go_quiet (fail)
  clear hi2 hi3
  go_wp2_with fail
  generalize hD : s.extract 0 (s.size - R.size) = D
  have hDl : D.data.toList = s.data.toList.takeWhile isDig := by
    rw [← hD, Lib.extract_data, List.drop_zero, Nat.sub_zero, bytes_len, bytes_len R, HR.out, takeWhile_len]
  have hdig : ∀ k (h : k < D.size), 48 ≤ ((D[k]'h).toNat : Int) ∧ ((D[k]'h).toNat : Int) ≤ 57 := by
    intro k h
    have h1 := takeWhile_all isDig s.data.toList (D[k]'h) (by
      rw [← hDl]
      exact List.mem_of_getElem? (i := k) (by rw [Array.getElem?_toList, Array.getElem?_eq_getElem (by exact h)]; rfl))
    simp only [isDig, between, Bool.and_eq_true, decide_eq_true_eq] at h1
    omega
  have hDs : D.size ≤ s.size := by rw [bytes_len, bytes_len s, hDl]; exact (List.takeWhile_sublist _).length_le
  have HD := Lib.hid hDl
  have hPW : PW ((w1.drewN nq).setCell ⟨b, 0, none⟩ (.string R)) b R g m r ov := (hP1.drewN nq).setLeft R
  have hUW : Upd (atB b) w ((w1.drewN nq).setCell ⟨b, 0, none⟩ (.string R)) := (((Upd.ofBelow _ hB)).drewN nq).setCell _ _ fun _ => rfl
  have hWs : ((w1.drewN nq).setCell ⟨b, 0, none⟩ (.string R)).heap.size = w1.heap.size := by simp
  generalize (w1.drewN nq).setCell ⟨b, 0, none⟩ (.string R) = W at *
  have HWs := Lib.hid hWs
  clear hD hDl hWs
  have bdN : ∀ k, 0 ≤ numVal (D.data.toList.take k) ∧ numVal (D.data.toList.take k) ≤ 256 := by
    intro k
    refine numVal_bd _ 0 (by omega) (by omega) fun c hc => ?_
    have := List.mem_of_mem_take hc
    rw [HD.out] at this
    exact takeWhile_all _ _ c this
  go_loopw [6] (fun v wr => ∃ k : Nat, k ≤ D.size ∧ v = .int .i64 (numVal (D.data.toList.take k)) ∧ wr = W.iter D k) (fun _ wr => D.size - posOf wr w1.heap.size)
  case atStart => exact ⟨0, Nat.zero_le _, rfl, rfl⟩
  case round =>
    obtain ⟨k, hk, rfl, rfl⟩ := hrel
    have hn0 := (bdN k).1
    have hn1 := (bdN k).2
    clear bdN
    by_cases hlt : k < D.size
    · have hd0 := (hdig k hlt).1
      have hd1 := (hdig k hlt).2
      clear hdig
      have hnx := run_next_ascii (P := Tryd.prog) W D k 0 hlt (by omega)
      rw [HWs.out] at hnx
      have hsn : numVal (D.data.toList.take (k + 1)) = min (10 * numVal (D.data.toList.take k) + (((D[k]'hlt).toNat : Int) - 48)) 256 := by
        rw [List.take_succ_eq_append_getElem (by rw [← bytes_len]; exact hlt), numVal_snoc]; rfl
      have HSN := Lib.hid hsn
      clear hsn
      go_wp2_with fail
      go_roundw
      case rel => exact ⟨k + 1, by omega, by rw [HSN.out], rfl⟩
      case measure => rw [posOf_iter _ _ _ _ HWs.out, posOf_iter _ _ _ _ HWs.out]; omega
    · have hnx := run_next_end (P := Tryd.prog) W D k 0 hlt
      rw [HWs.out] at hnx
      have hkD : D.data.toList.take k = D.data.toList := List.take_of_length_le (by rw [← bytes_len]; omega)
      have HK := Lib.hid hkD
      clear hkD
      go_wp2_with fail
      go_ret2
      refine ⟨tup2 ?_ ?_, ⟨R, HR.out, hPW.alloc _⟩, hUW.alloc _⟩
      · show Value.int .i64 (numVal (D.data.toList.take k)) = _
        rw [HK.out, HD.out]
      · show Value.bool (!D.toList.isEmpty) = _
        rw [bytes_toList, HD.out]
        cases s.data.toList.takeWhile isDig <;> rfl

theorem take_st (w : World) (b : Nat) (st : PSt) (p : ByteArray) (hS : StW w b st) :
    Calls Tryd.prog 29 #[.pointer (some ⟨b, 0, none⟩), .string p] w fun e w' => e = .returned (.bool (Lib.hasPrefix st.left p.data.toList)) ∧
      StW w' b { st with left := Lib.trimPrefix st.left p.data.toList } ∧ Upd (atB b) w w' := by
  obtain ⟨s, ov, hs, hP, hO⟩ := hS
  refine (take_any w b s p st.g st.m st.r ov hP).mono ?_
  rintro e w' ⟨rfl, ⟨s', hs', hP'⟩, hU⟩
  rw [hs] at *
  exact ⟨rfl, ⟨s', ov, hs', hP', hO.keep (keepInt_atB hU)⟩, hU⟩
theorem number_st (w : World) (b : Nat) (st : PSt) (hS : StW w b st) (hl : st.left.length ≤ 1000) :
    Calls Tryd.prog 30 #[.pointer (some ⟨b, 0, none⟩)] w fun e w' => e = .returned (.tuple #[.int .i64 (numVal (st.left.takeWhile isDig)), .bool (decide (st.left.takeWhile isDig ≠ []))]) ∧
      StW w' b { st with left := st.left.dropWhile isDig } ∧ Upd (atB b) w w' := by
  obtain ⟨s, ov, hs, hP, hO⟩ := hS
  refine (number_any w b s st.g st.m st.r ov hP (by rw [bytes_len, hs]; exact hl)).mono ?_
  rintro e w' ⟨rfl, ⟨s', hs', hP'⟩, hU⟩
  rw [hs] at *
  exact ⟨rfl, ⟨s', ov, hs', hP', hO.keep (keepInt_atB hU)⟩, hU⟩
theorem StW.lt {w : World} {b : Nat} {st : PSt} (h : StW w b st) : b < w.heap.size := by
  obtain ⟨s, ov, hs, hP, hO⟩ := h; exact hP.lt
theorem StW.alloc {w : World} {b : Nat} {st : PSt} (h : StW w b st) (o : Obj) : StW (w.alloc o) b st := by
  obtain ⟨s, ov, hs, hP, hO⟩ := h; exact ⟨s, ov, hs, hP.alloc _, hO.keep (Keep.alloc _)⟩
theorem StW.drewN {w : World} {b : Nat} {st : PSt} (h : StW w b st) (n : Nat) : StW (w.drewN n) b st := by
  obtain ⟨s, ov, hs, hP, hO⟩ := h; exact ⟨s, ov, hs, hP, hO⟩
theorem StW.setRow {w : World} {b : Nat} {st : PSt} (h : StW w b st) {g : Nat} {cs0 : Array Value} {fr : Nat × Nat} (hg : w.heap[g]? = some (.cells cs0 41 fr)) (cs : Array Value) : StW (w.setRow g cs) b st := by
  obtain ⟨s, ov, hs, hP, hO⟩ := h
  refine ⟨s, ov, hs, hP.setRow _ (fun e => ?_), hO.keep (Keep.setRowT hg (by decide) _)⟩
  subst e; rw [hP] at hg; cases hg
theorem keepNode_atB {w w' : World} {b : Nat} {D : Nat → Prop} {st : PSt} (hS : StW w b st) (h : Upd (atB b) w w') : Keep D 41 w w' := by
  obtain ⟨s, ov, hs, hP, hO⟩ := hS; exact keepNode_sp hP h.sp
theorem keepNode_st {w w' : World} {b : Nat} {D : Nat → Prop} {st : PSt} (hS : StW w b st) (h : Upd (SP b) w w') : Keep D 41 w w' := by
  obtain ⟨s, ov, hs, hP, hO⟩ := hS; exact keepNode_sp hP h
/-- How long what is left is. -/
def leftLen (w : World) (b : Nat) : Nat := match w.cell? ⟨b, 0, none⟩ with | some (.string s) => s.size | _ => 0
theorem StW.leftLen {w : World} {b : Nat} {st : PSt} (h : StW w b st) : leftLen w b = st.left.length := by
  obtain ⟨s, ov, hs, hP, -⟩ := h
  unfold Go.Proofs.YtkbfckigndkkkaaDoor.leftLen; rw [hP.cells.1]
  exact (bytes_len s).trans (by rw [hs])
def TimesRel (b : Nat) (w : World) (D : Nat → Prop) (R : Option ((Hd × Fo) × PSt)) (wr : World) : Prop :=
  ∃ n st h kv k, timesS n st h k = R ∧ st.left.length < n ∧ st.left.length ≤ 1000 ∧ 0 ≤ st.m ∧ st.m ≤ 200 ∧ StW wr b st ∧
    wr.heap[w.heap.size]? = some (.cells (ndH h kv) 41 (0, 0)) ∧ (∃ z : Array Value, z.size = 262 ∧ wr.heap[w.heap.size + 1]? = some (.cells z 41 (0, 0))) ∧
    Rep (fun j => (D j ∧ j < w.heap.size) ∨ w.heap.size + 2 ≤ j) 41 wr kv k ∧ Upd (SP b) w wr
theorem trimPrefix_yes {l p : List UInt8} (h : Lib.hasPrefix l p = true) : Lib.trimPrefix l p = l.drop p.length := by simp [Lib.trimPrefix, h]
theorem trimPrefix_no {l p : List UInt8} (h : Lib.hasPrefix l p = false) : Lib.trimPrefix l p = l := by simp [Lib.trimPrefix, h]
theorem hasPrefix_len {l p : List UInt8} (h : Lib.hasPrefix l p = true) : p.length ≤ l.length := by
  unfold Lib.hasPrefix at h
  exact (List.isPrefixOf_iff_prefix.1 h).length_le
theorem nodeS_some {st : PSt} (h : st.m + 1 ≤ 200) : nodeS st = some { st with m := st.m + 1 } := by simp [nodeS, h]
theorem nodeS_none {st : PSt} (h : ¬ st.m + 1 ≤ 200) : nodeS st = none := by simp [nodeS, h]
theorem mkS_none {st : PSt} {h : Hd} {k : Fo} (e : nodeS st = none) : mkS st h k = none := by simp [mkS, e]
theorem mkS_some {st st' : PSt} {h : Hd} {k : Fo} (e : nodeS st = some st') : mkS st h k = some ((h, k), st') := by simp [mkS, e]

/-- One more repetition: behind the call of 'node' (D: the kids' blocks). -/
theorem times_step {w w1 w2 : World} {b : Nat} {D : Nat → Prop} {R : Option ((Hd × Fo) × PSt)} {n : Nat} {st st' : PSt} {h hn : Hd} {kv : Value} {k : Fo} {z : Array Value}
    (hR : timesS n st' hn (Fo.one h k) = R) (hl : st'.left.length < n) (hl2 : st'.left.length ≤ 1000) (h0 : 0 ≤ st'.m) (h1 : st'.m ≤ 200)
    (hS1 : StW w1 b st) (hgx : w1.heap[w.heap.size]? = some (.cells (ndH h kv) 41 (0, 0))) (hz : z.size = 262) (hgz : w1.heap[w.heap.size + 1]? = some (.cells z 41 (0, 0)))
    (hRep : Rep (fun j => (D j ∧ j < w.heap.size) ∨ w.heap.size + 2 ≤ j) 41 w1 kv k) (hU : Upd (SP b) w w1) (hsz : w.heap.size + 2 ≤ w1.heap.size)
    {kv' : Value} (hkv : kv' = .slice (some ⟨w1.heap.size, 0, none⟩) 1 1)
    (hS2 : StW w2 b st') (hU2 : Upd (atB b) (w1.alloc (.cells (ndH h kv) 41)) w2) :
    TimesRel b w D R (w2.setRow w.heap.size (ndH hn kv')) := by
  subst hkv
  have hk2 : ∀ D, Keep D 41 (w1.alloc (.cells (ndH h kv) 41)) w2 := fun D => keepNode_atB (hS1.alloc _) hU2
  have hgx2 : w2.heap[w.heap.size]? = some (.cells (ndH h kv) 41 (0, 0)) := hk2 (fun _ => True) _ _ _ trivial (by rw [heap_alloc_lt (by omega)]; exact hgx)
  have hgz2 : w2.heap[w.heap.size + 1]? = some (.cells z 41 (0, 0)) := hk2 (fun _ => True) _ _ _ trivial (by rw [heap_alloc_lt (by omega)]; exact hgz)
  have hg2 : w2.heap[w1.heap.size]? = some (.cells (ndH h kv) 41 (0, 0)) := hk2 (fun _ => True) _ _ _ trivial (by (focus ((try simp (disch := (first | (simp only [sz_alloc, sz_set, sz_row, sz_drew, sz_drewN] <;> omega) | omega)) only [hq_eq, hq_ne, hq_set, hq_row, hq_drew, hq_drewN]) <;> (first | rfl | assumption))))
  have hkS : Keep (fun j => (D j ∧ j < w.heap.size) ∨ w.heap.size + 2 ≤ j) 41 w2 (w2.setRow w.heap.size (ndH hn (.slice (some ⟨w1.heap.size, 0, none⟩) 1 1))) := Keep.setRow _ _ fun j hj _ => by omega
  obtain ⟨kk, hk1, hk2'⟩ := hRep
  refine ⟨n, st', hn, _, Fo.one h k, hR, hl, hl2, h0, h1, hS2.setRow hgx2 _, setRow_heap _ _ _ _ _ _ hgx2, ⟨z, hz, by rw [hq_row (by omega)]; exact hgz2⟩, ?_, ?_⟩
  · refine Rep.keep ⟨[kv], RowAt.single hg2 (.inr hsz), kv, [], kk, rfl, (hk1.keep (Keep.alloc _)).keep (hk2 _), RepK.keep (hk2 _) _ _ (RepK.keep (Keep.alloc _) _ _ hk2'), rfl⟩ hkS
  · exact ((hU.alloc _).trans hU2.sp).setRow _ _ fun h => absurd h (by omega)

set_option maxRecDepth 100000 in set_option maxHeartbeats 4000000 in
theorem times_any (w : World) (b : Nat) (st : PSt) (h : Hd) (kv : Value) (k : Fo) (D : Nat → Prop) (n : Nat) (hS : StW w b st) (h0 : 0 ≤ st.m) (h1 : st.m ≤ 200) (hl : st.left.length < n) (hl2 : st.left.length ≤ 1000)
    (hR : Rep D 41 w kv k) :
    Calls Tryd.prog 19 #[.pointer (some ⟨b, 0, none⟩), .agg (ndH h kv)] w (OutN b D w (timesS n st h k)) := by
  have hTR : TimesRel b w D (timesS n st h k) ((w.alloc (.cells (ndH h kv) 41)).alloc (.cells (ndA 0 0 noS 0 0 0 (.slice none 0 0)) 41)) := by
    refine ⟨n, st, h, kv, k, rfl, hl, hl2, h0, h1, (hS.alloc _).alloc _, (by (focus ((try simp (disch := (first | (simp only [sz_alloc, sz_set, sz_row, sz_drew, sz_drewN] <;> omega) | omega)) only [hq_eq, hq_ne, hq_set, hq_row, hq_drew, hq_drewN]) <;> (first | rfl | assumption)))), ⟨_, ndA_size _ _ _ _ _ _ _, (by (focus ((try simp (disch := (first | (simp only [sz_alloc, sz_set, sz_row, sz_drew, sz_drewN] <;> omega) | omega)) only [hq_eq, hq_ne, hq_set, hq_row, hq_drew, hq_drewN]) <;> (first | rfl | assumption))))⟩,
      ((hR.mono fun j hj hlt => Or.inl ⟨hj, hlt⟩).keep (Keep.alloc _)).keep (Keep.alloc _), ((Upd.refl _ _).alloc _).alloc _⟩
  generalize timesS n st h k = R at *
  have hb : b < w.heap.size := hS.lt
  have hN1 : (ndH h kv).all (·.oneCell') = true := ndA_one _ _ _ _ _ _ _ hR.one
  have hNs : (ndH h kv).size = 262 := ndA_size _ _ _ _ _ _ _
  generalize ndH h kv = N at *
  clear hS h0 h1 hl hl2 hR
  go_enter Tryd.func19, Tryd.ntmps19
  go_wp2_with fail
  go_loopw [] (fun wr => TimesRel b w D R wr) (fun wr => leftLen wr b)
  case atStart => exact hTR
  case round =>
    clear hTR hN1 hNs
    obtain ⟨n, st, h, kv, k, hR, hl, hl2, h0, h1, hS, hgx, ⟨z, hz, hgz⟩, hRep, hU⟩ := hrel
    obtain ⟨n, rfl⟩ : ∃ n', n = n' + 1 := ⟨n - 1, by omega⟩
    have HR := Lib.hid hR
    clear hR
    have hsz : w.heap.size + 2 ≤ wr.heap.size := by have := lt_of_heap hgz; omega
    have hLL := Lib.hid hS.leftLen
    by_cases hstar : Lib.hasPrefix st.left [42] = true
    · have hlen := hasPrefix_len hstar
      simp only [List.length_singleton] at hlen
      have hdl : (st.left.drop 1).length = st.left.length - 1 := List.length_drop
      go_wp2_with fail
      refine (take_st _ b st _ hS).mono ?_
      rintro e w1 ⟨rfl, hS1, hU1⟩
      rw [show ((⟨#[42]⟩ : ByteArray).data.toList) = [42] from rfl] at hS1 ⊢
      rw [hstar]
      rw [trimPrefix_yes hstar, List.length_singleton] at hS1
      have hgx1 := keepNode_atB (D := fun _ => True) hS hU1 _ _ _ trivial hgx
      have hgz1 := keepNode_atB (D := fun _ => True) hS hU1 _ _ _ trivial hgz
      have hRep1 := hRep.keep (keepNode_atB hS hU1)
      have hsz1 : w.heap.size + 2 ≤ w1.heap.size := Nat.le_trans hsz hU1.size
      have hN1 : (ndH h kv).all (·.oneCell') = true := ndA_one _ _ _ _ _ _ _ hRep.one
      have hNs : (ndH h kv).size = 262 := ndA_size _ _ _ _ _ _ _
      have HU1 := Lib.hid (hU.trans hU1.sp)
      clear hgx hgz hRep hU hU1 hS
      by_cases hm : st.m + 1 ≤ 200
      · go_wp2_with (first | ((with_reducible apply ldNode); (focus rfl); (focus ((try simp (disch := (first | (simp only [sz_alloc, sz_set, sz_row, sz_drew, sz_drewN] <;> omega) | omega)) only [hq_eq, hq_ne, hq_set, hq_row, hq_drew, hq_drewN]) <;> (first | rfl | assumption))); (focus (first | assumption | exact ndA_size _ _ _ _ _ _ _))) | ((with_reducible apply bsNode); (focus rfl); (focus (first | assumption | exact ndA_size _ _ _ _ _ _ _))))
        refine (node_yes _ b { st with left := st.left.drop 1 } _ (hS1.alloc _) h0 hm (ndA_size _ _ _ _ _ _ _) (ndA_one _ _ _ _ _ _ _ rfl)).mono ?_
        rintro e w2 ⟨rfl, hS2, hU2⟩
        have hgx2 := keepNode_atB (D := fun _ => True) (hS1.alloc _) hU2 _ _ _ trivial (Keep.alloc (D := fun _ => True) _ _ _ _ trivial hgx1)
        go_wp2_with ((with_reducible apply stNode); (focus rfl); (focus rfl); (focus ((try simp (disch := (first | (simp only [sz_alloc, sz_set, sz_row, sz_drew, sz_drewN] <;> omega) | omega)) only [hq_eq, hq_ne, hq_set, hq_row, hq_drew, hq_drewN]) <;> (first | rfl | assumption))); (focus (first | assumption | exact ndA_size _ _ _ _ _ _ _)); (focus (first | assumption | exact ndA_size _ _ _ _ _ _ _)); (focus (first | assumption | exact ndA_one _ _ _ _ _ _ _ rfl)))
        go_roundw
        case rel =>
          refine times_step (hn := ⟨8, 0, noS, 0, 0, -1⟩) (n := n) (st' := { st with left := st.left.drop 1, m := st.m + 1 }) (k := k) ?_ (by simp only [List.length_drop]; omega) (by simp only [List.length_drop]; omega) (by simp only; omega) hm hS1 hgx1 hz hgz1 hRep1 HU1.out hsz1 rfl hS2 hU2
          rw [← HR.out, timesS, if_pos hstar, nodeS_some (st := { st with left := st.left.drop 1 }) hm]
        case measure =>
          rw [hLL.out, (hS2.setRow hgx2 _).leftLen]
          simp only [List.length_drop]; omega
      · go_wp2_with (first | ((with_reducible apply ldNode); (focus rfl); (focus ((try simp (disch := (first | (simp only [sz_alloc, sz_set, sz_row, sz_drew, sz_drewN] <;> omega) | omega)) only [hq_eq, hq_ne, hq_set, hq_row, hq_drew, hq_drewN]) <;> (first | rfl | assumption))); (focus (first | assumption | exact ndA_size _ _ _ _ _ _ _))) | ((with_reducible apply bsNode); (focus rfl); (focus (first | assumption | exact ndA_size _ _ _ _ _ _ _))))
        refine (node_no _ b { st with left := st.left.drop 1 } _ (hS1.alloc _) h0 h1 (by simp only; omega)).mono ?_
        rintro e w2 ⟨rfl, hU2⟩
        go_wp2_with fail
        refine ⟨rfl, ?_⟩
        rw [← HR.out, timesS, if_pos hstar, nodeS_none (st := { st with left := st.left.drop 1 }) (by simp only; omega)]
        exact ⟨rfl, (HU1.out.alloc _).trans hU2.sp⟩
    · have hstar : Lib.hasPrefix st.left [42] = false := by simpa using hstar
      go_wp2_with fail
      refine (take_st _ b st _ hS).mono ?_
      rintro e w1 ⟨rfl, hS1, hU1⟩
      rw [show ((⟨#[42]⟩ : ByteArray).data.toList) = [42] from rfl] at hS1 ⊢
      rw [hstar]
      rw [trimPrefix_no hstar] at hS1
      have hgx1 := keepNode_atB (D := fun _ => True) hS hU1 _ _ _ trivial hgx
      have hgz1 := keepNode_atB (D := fun _ => True) hS hU1 _ _ _ trivial hgz
      have hRep1 := hRep.keep (keepNode_atB hS hU1)
      have hsz1 : w.heap.size + 2 ≤ w1.heap.size := Nat.le_trans hsz hU1.size
      have HU1 := Lib.hid (hU.trans hU1.sp)
      clear hgx hgz hRep hU hU1 hS hsz
      by_cases hbr : Lib.hasPrefix st.left [92, 123] = true
      · go_wp2_with fail
        refine (take_st _ b _ _ hS1).mono ?_
        rintro e w2 ⟨rfl, hS2, hU2⟩
        rw [show ((⟨#[92, 123]⟩ : ByteArray).data.toList) = [92, 123] from rfl] at hS2 ⊢
        simp only at hS2 ⊢
        rw [hbr]
        rw [trimPrefix_yes hbr] at hS2
        simp only [List.length_cons, List.length_nil, Nat.zero_add, Nat.reduceAdd] at hS2
        have hdl : (st.left.drop 2).length = st.left.length - 2 := List.length_drop
        have hbl := hasPrefix_len hbr
        simp only [List.length_cons, List.length_nil, Nat.zero_add, Nat.reduceAdd] at hbl
        have hgx2 := keepNode_atB (D := fun _ => True) hS1 hU2 _ _ _ trivial hgx1
        have hgz2 := keepNode_atB (D := fun _ => True) hS1 hU2 _ _ _ trivial hgz1
        have hRep2 := hRep1.keep (keepNode_atB hS1 hU2)
        have hsz2 : w.heap.size + 2 ≤ w2.heap.size := Nat.le_trans hsz1 hU2.size
        have HU2 := Lib.hid (HU1.out.trans hU2.sp)
        clear hgx1 hgz1 hRep1 hsz1
        go_wp2_with fail
        refine (number_st _ b _ hS2 (by simp only; omega)).mono ?_
        rintro e w3 ⟨rfl, hS3, hU3⟩
        simp only at hS3 ⊢
        have hgx3 := keepNode_atB (D := fun _ => True) hS2 hU3 _ _ _ trivial hgx2
        have hgz3 := keepNode_atB (D := fun _ => True) hS2 hU3 _ _ _ trivial hgz2
        have hRep3 := hRep2.keep (keepNode_atB hS2 hU3)
        have hsz3 : w.heap.size + 2 ≤ w3.heap.size := Nat.le_trans hsz2 hU3.size
        have HU3 := Lib.hid (HU2.out.trans hU3.sp)
        clear hgx2 hgz2 hRep2 hsz2
        have hB0 : braceS (st.left.drop 2) = braceS (st.left.drop 2) := rfl
        conv at hB0 => rhs; unfold braceS
        simp only at hB0
        have hmv0 := (numVal_bd ((st.left.drop 2).takeWhile isDig) 0 (by omega) (by omega) (takeWhile_all _ _)).1
        have hmv1 := (numVal_bd ((st.left.drop 2).takeWhile isDig) 0 (by omega) (by omega) (takeWhile_all _ _)).2
        have hl2l : ((st.left.drop 2).dropWhile isDig).length ≤ (st.left.drop 2).length := (List.dropWhile_sublist _).length_le
        generalize hok : decide ((st.left.drop 2).takeWhile isDig ≠ []) = okb at *
        change 0 ≤ numVal ((st.left.drop 2).takeWhile isDig) at hmv0
        change numVal ((st.left.drop 2).takeWhile isDig) ≤ 256 at hmv1
        generalize numVal ((st.left.drop 2).takeWhile isDig) = mv at *
        generalize hl2 : (st.left.drop 2).dropWhile isDig = l2 at *
        have HOK := Lib.hid hok
        clear hok
        by_cases hc : Lib.hasPrefix l2 [44] = true
        · simp only [hc, if_true] at hB0
          have hcl := hasPrefix_len hc
          simp only [List.length_singleton] at hcl
          have hdl2 : (l2.drop 1).length = l2.length - 1 := List.length_drop
          go_wp2_with fail
          refine (take_st _ b _ _ hS3).mono ?_
          rintro e w7 ⟨rfl, hS7, hU7⟩
          rw [show ((⟨#[44]⟩ : ByteArray).data.toList) = [44] from rfl] at hS7 ⊢
          simp only at hS7 ⊢
          rw [hc]
          rw [trimPrefix_yes hc, List.length_singleton] at hS7
          have hgx7 := keepNode_atB (D := fun _ => True) hS3 hU7 _ _ _ trivial hgx3
          have hgz7 := keepNode_atB (D := fun _ => True) hS3 hU7 _ _ _ trivial hgz3
          have hRep7 := hRep3.keep (keepNode_atB hS3 hU7)
          have hsz7 : w.heap.size + 2 ≤ w7.heap.size := Nat.le_trans hsz3 hU7.size
          have HU7 := Lib.hid (HU3.out.trans hU7.sp)
          clear hgx3 hgz3 hRep3 hsz3
          go_wp2_with fail
          refine (number_st _ b _ hS7 (by simp only; omega)).mono ?_
          rintro e w4 ⟨rfl, hS4, hU4⟩
          simp only at hS4 ⊢
          have hgx4 := keepNode_atB (D := fun _ => True) hS7 hU4 _ _ _ trivial hgx7
          have hgz4 := keepNode_atB (D := fun _ => True) hS7 hU4 _ _ _ trivial hgz7
          have hRep4 := hRep7.keep (keepNode_atB hS7 hU4)
          have hsz4 : w.heap.size + 2 ≤ w4.heap.size := Nat.le_trans hsz7 hU4.size
          have HU4 := Lib.hid (HU7.out.trans hU4.sp)
          clear hgx7 hgz7 hRep7 hsz7
          have hkx0 := (numVal_bd ((l2.drop 1).takeWhile isDig) 0 (by omega) (by omega) (takeWhile_all _ _)).1
          have hkx1 := (numVal_bd ((l2.drop 1).takeWhile isDig) 0 (by omega) (by omega) (takeWhile_all _ _)).2
          change 0 ≤ numVal ((l2.drop 1).takeWhile isDig) at hkx0
          change numVal ((l2.drop 1).takeWhile isDig) ≤ 256 at hkx1
          have hl3l : ((l2.drop 1).dropWhile isDig).length ≤ (l2.drop 1).length := (List.dropWhile_sublist _).length_le
          by_cases his : (l2.drop 1).takeWhile isDig ≠ []
          · rw [if_pos his] at hB0
            rw [decide_eq_true his]
            clear his
            generalize numVal ((l2.drop 1).takeWhile isDig) = kx at *
            generalize hl3 : (l2.drop 1).dropWhile isDig = l3 at *
            have HB := Lib.hid hB0
            clear hB0 hl3 hS7 hU7 hU4 hS3 hU3 hS2 hU2 hS1
            cases okb with
            | false =>
              go_wp2_with (go_at_call 14; refine (must_false _).mono ?_; rintro e w' ⟨rfl, rfl⟩)
              refine ⟨rfl, ?_⟩
              rw [← HR.out, timesS, if_neg (by rw [hstar]; decide), if_pos hbr, HB.out, if_neg (by rintro ⟨h, -⟩; have h2 := HOK.out; rw [decide_eq_true h] at h2; cases h2)]
              exact ⟨rfl, HU4.out⟩
            | true =>
              by_cases hpre : Lib.hasPrefix l3 [92, 125] = true
              · have hlen3 := hasPrefix_len hpre
                simp only [List.length_cons, List.length_nil, Nat.zero_add, Nat.reduceAdd] at hlen3
                go_wp2_with fail
                refine (take_st _ b _ _ hS4).mono ?_
                rintro e w5 ⟨rfl, hS5, hU5⟩
                rw [show ((⟨#[92, 125]⟩ : ByteArray).data.toList) = [92, 125] from rfl] at hS5 ⊢
                simp only at hS5 ⊢
                rw [hpre]
                rw [trimPrefix_yes hpre] at hS5
                simp only [List.length_cons, List.length_nil, Nat.zero_add, Nat.reduceAdd] at hS5
                have hgx5 := keepNode_atB (D := fun _ => True) hS4 hU5 _ _ _ trivial hgx4
                have hgz5 := keepNode_atB (D := fun _ => True) hS4 hU5 _ _ _ trivial hgz4
                have hRep5 := hRep4.keep (keepNode_atB hS4 hU5)
                have hsz5 : w.heap.size + 2 ≤ w5.heap.size := Nat.le_trans hsz4 hU5.size
                have HU5 := Lib.hid (HU4.out.trans hU5.sp)
                have hN1 : (ndH h kv).all (·.oneCell') = true := ndA_one _ _ _ _ _ _ _ hRep5.one
                have hNs : (ndH h kv).size = 262 := ndA_size _ _ _ _ _ _ _
                clear hgx4 hgz4 hRep4 hU5 hS4 hsz4
                by_cases hqmvn : mv ≤ 255
                · have hdmvn : decide (mv ≤ 255) = true := by simpa using hqmvn
                  by_cases hqkxn : kx ≤ 255
                  · have hdkxn : decide (kx ≤ 255) = true := by simpa using hqkxn
                    have hdz : decide (kx < 0) = false := by simp; omega
                    by_cases hqmvm : mv ≤ kx
                    · have hdmvm : decide (mv ≤ kx) = true := by simpa using hqmvm
                      by_cases hm : st.m + 1 ≤ 200
                      · go_wp2_with (first | (go_at_call 14; refine (must_true _).mono ?_; rintro e w' ⟨rfl, rfl⟩) | ((with_reducible apply ldNode); (focus rfl); (focus ((try simp (disch := (first | (simp only [sz_alloc, sz_set, sz_row, sz_drew, sz_drewN] <;> omega) | omega)) only [hq_eq, hq_ne, hq_set, hq_row, hq_drew, hq_drewN]) <;> (first | rfl | assumption))); (focus (first | assumption | exact ndA_size _ _ _ _ _ _ _))) | ((with_reducible apply bsNode); (focus rfl); (focus (first | assumption | exact ndA_size _ _ _ _ _ _ _))))
                        refine (node_yes _ b { st with left := l3.drop 2 } _ (hS5.alloc _) h0 hm (ndA_size _ _ _ _ _ _ _) (ndA_one _ _ _ _ _ _ _ rfl)).mono ?_
                        rintro e w6 ⟨rfl, hS6, hU6⟩
                        have hgx6 := keepNode_atB (D := fun _ => True) (hS5.alloc _) hU6 _ _ _ trivial (Keep.alloc (D := fun _ => True) _ _ _ _ trivial hgx5)
                        go_wp2_with ((with_reducible apply stNode); (focus rfl); (focus rfl); (focus ((try simp (disch := (first | (simp only [sz_alloc, sz_set, sz_row, sz_drew, sz_drewN] <;> omega) | omega)) only [hq_eq, hq_ne, hq_set, hq_row, hq_drew, hq_drewN]) <;> (first | rfl | assumption))); (focus (first | assumption | exact ndA_size _ _ _ _ _ _ _)); (focus (first | assumption | exact ndA_size _ _ _ _ _ _ _)); (focus (first | assumption | exact ndA_one _ _ _ _ _ _ _ rfl)))
                        go_roundw
                        case rel =>
                          refine times_step (hn := ⟨8, 0, noS, 0, mv, kx⟩) (n := n) (st' := { st with left := l3.drop 2, m := st.m + 1 }) (k := k) ?_ (by simp only [List.length_drop]; omega) (by simp only [List.length_drop]; omega) (by simp only; omega) hm hS5 hgx5 hz hgz5 hRep5 HU5.out hsz5 rfl hS6 hU6
                          rw [← HR.out, timesS, if_neg (by rw [hstar]; decide), if_pos hbr, HB.out, if_pos ⟨of_decide_eq_true HOK.out, hpre, by omega, by omega, by omega⟩]
                          simp only
                          rw [nodeS_some (st := { st with left := l3.drop 2 }) hm]
                        case measure =>
                          rw [hLL.out, (hS6.setRow hgx6 _).leftLen]
                          simp only [List.length_drop]; omega
                      · go_wp2_with (first | (go_at_call 14; refine (must_true _).mono ?_; rintro e w' ⟨rfl, rfl⟩) | ((with_reducible apply ldNode); (focus rfl); (focus ((try simp (disch := (first | (simp only [sz_alloc, sz_set, sz_row, sz_drew, sz_drewN] <;> omega) | omega)) only [hq_eq, hq_ne, hq_set, hq_row, hq_drew, hq_drewN]) <;> (first | rfl | assumption))); (focus (first | assumption | exact ndA_size _ _ _ _ _ _ _))) | ((with_reducible apply bsNode); (focus rfl); (focus (first | assumption | exact ndA_size _ _ _ _ _ _ _))))
                        refine (node_no _ b { st with left := l3.drop 2 } _ (hS5.alloc _) h0 h1 (by simp only; omega)).mono ?_
                        rintro e w6 ⟨rfl, hU6⟩
                        go_wp2_with fail
                        refine ⟨rfl, ?_⟩
                        rw [← HR.out, timesS, if_neg (by rw [hstar]; decide), if_pos hbr, HB.out, if_pos ⟨of_decide_eq_true HOK.out, hpre, by omega, by omega, by omega⟩]
                        simp only
                        rw [nodeS_none (st := { st with left := l3.drop 2 }) (by simp only; omega)]
                        exact ⟨rfl, (HU5.out.alloc _).trans hU6.sp⟩
                    · have hdmvm : decide (mv ≤ kx) = false := by simpa using hqmvm
                      go_wp2_with (go_at_call 14; refine (must_false _).mono ?_; rintro e w' ⟨rfl, rfl⟩)
                      refine ⟨rfl, ?_⟩
                      rw [← HR.out, timesS, if_neg (by rw [hstar]; decide), if_pos hbr, HB.out, if_neg (by rintro ⟨-, -, _, _, _⟩; omega)]
                      exact ⟨rfl, HU5.out⟩
                  · have hdkxn : decide (kx ≤ 255) = false := by simpa using hqkxn
                    go_wp2_with (go_at_call 14; refine (must_false _).mono ?_; rintro e w' ⟨rfl, rfl⟩)
                    refine ⟨rfl, ?_⟩
                    rw [← HR.out, timesS, if_neg (by rw [hstar]; decide), if_pos hbr, HB.out, if_neg (by rintro ⟨-, -, _, _, _⟩; omega)]
                    exact ⟨rfl, HU5.out⟩
                · have hdmvn : decide (mv ≤ 255) = false := by simpa using hqmvn
                  go_wp2_with (go_at_call 14; refine (must_false _).mono ?_; rintro e w' ⟨rfl, rfl⟩)
                  refine ⟨rfl, ?_⟩
                  rw [← HR.out, timesS, if_neg (by rw [hstar]; decide), if_pos hbr, HB.out, if_neg (by rintro ⟨-, -, _, _, _⟩; omega)]
                  exact ⟨rfl, HU5.out⟩
              · have hpre : Lib.hasPrefix l3 [92, 125] = false := by simpa using hpre
                go_wp2_with fail
                refine (take_st _ b _ _ hS4).mono ?_
                rintro e w5 ⟨rfl, hS5, hU5⟩
                rw [show ((⟨#[92, 125]⟩ : ByteArray).data.toList) = [92, 125] from rfl] at hS5 ⊢
                simp only at hS5 ⊢
                rw [hpre]
                go_wp2_with (go_at_call 14; refine (must_false _).mono ?_; rintro e w' ⟨rfl, rfl⟩)
                refine ⟨rfl, ?_⟩
                rw [← HR.out, timesS, if_neg (by rw [hstar]; decide), if_pos hbr, HB.out, if_neg (by rintro ⟨-, h, -⟩; rw [hpre] at h; cases h)]
                exact ⟨rfl, HU4.out.trans hU5.sp⟩
          · rw [if_neg his] at hB0
            rw [decide_eq_false his]
            clear his hkx0 hkx1
            generalize hl3 : (l2.drop 1).dropWhile isDig = l3 at *
            have HB := Lib.hid hB0
            clear hB0 hl3 hS7 hU7 hU4 hS3 hU3 hS2 hU2 hS1
            cases okb with
            | false =>
              go_wp2_with (go_at_call 14; refine (must_false _).mono ?_; rintro e w' ⟨rfl, rfl⟩)
              refine ⟨rfl, ?_⟩
              rw [← HR.out, timesS, if_neg (by rw [hstar]; decide), if_pos hbr, HB.out, if_neg (by rintro ⟨h, -⟩; have h2 := HOK.out; rw [decide_eq_true h] at h2; cases h2)]
              exact ⟨rfl, HU4.out⟩
            | true =>
              by_cases hpre : Lib.hasPrefix l3 [92, 125] = true
              · have hlen3 := hasPrefix_len hpre
                simp only [List.length_cons, List.length_nil, Nat.zero_add, Nat.reduceAdd] at hlen3
                go_wp2_with fail
                refine (take_st _ b _ _ hS4).mono ?_
                rintro e w5 ⟨rfl, hS5, hU5⟩
                rw [show ((⟨#[92, 125]⟩ : ByteArray).data.toList) = [92, 125] from rfl] at hS5 ⊢
                simp only at hS5 ⊢
                rw [hpre]
                rw [trimPrefix_yes hpre] at hS5
                simp only [List.length_cons, List.length_nil, Nat.zero_add, Nat.reduceAdd] at hS5
                have hgx5 := keepNode_atB (D := fun _ => True) hS4 hU5 _ _ _ trivial hgx4
                have hgz5 := keepNode_atB (D := fun _ => True) hS4 hU5 _ _ _ trivial hgz4
                have hRep5 := hRep4.keep (keepNode_atB hS4 hU5)
                have hsz5 : w.heap.size + 2 ≤ w5.heap.size := Nat.le_trans hsz4 hU5.size
                have HU5 := Lib.hid (HU4.out.trans hU5.sp)
                have hN1 : (ndH h kv).all (·.oneCell') = true := ndA_one _ _ _ _ _ _ _ hRep5.one
                have hNs : (ndH h kv).size = 262 := ndA_size _ _ _ _ _ _ _
                clear hgx4 hgz4 hRep4 hU5 hS4 hsz4
                by_cases hqmvn : mv ≤ 255
                · have hdmvn : decide (mv ≤ 255) = true := by simpa using hqmvn
                  by_cases hm : st.m + 1 ≤ 200
                  · go_wp2_with (first | (go_at_call 14; refine (must_true _).mono ?_; rintro e w' ⟨rfl, rfl⟩) | ((with_reducible apply ldNode); (focus rfl); (focus ((try simp (disch := (first | (simp only [sz_alloc, sz_set, sz_row, sz_drew, sz_drewN] <;> omega) | omega)) only [hq_eq, hq_ne, hq_set, hq_row, hq_drew, hq_drewN]) <;> (first | rfl | assumption))); (focus (first | assumption | exact ndA_size _ _ _ _ _ _ _))) | ((with_reducible apply bsNode); (focus rfl); (focus (first | assumption | exact ndA_size _ _ _ _ _ _ _))))
                    refine (node_yes _ b { st with left := l3.drop 2 } _ (hS5.alloc _) h0 hm (ndA_size _ _ _ _ _ _ _) (ndA_one _ _ _ _ _ _ _ rfl)).mono ?_
                    rintro e w6 ⟨rfl, hS6, hU6⟩
                    have hgx6 := keepNode_atB (D := fun _ => True) (hS5.alloc _) hU6 _ _ _ trivial (Keep.alloc (D := fun _ => True) _ _ _ _ trivial hgx5)
                    go_wp2_with ((with_reducible apply stNode); (focus rfl); (focus rfl); (focus ((try simp (disch := (first | (simp only [sz_alloc, sz_set, sz_row, sz_drew, sz_drewN] <;> omega) | omega)) only [hq_eq, hq_ne, hq_set, hq_row, hq_drew, hq_drewN]) <;> (first | rfl | assumption))); (focus (first | assumption | exact ndA_size _ _ _ _ _ _ _)); (focus (first | assumption | exact ndA_size _ _ _ _ _ _ _)); (focus (first | assumption | exact ndA_one _ _ _ _ _ _ _ rfl)))
                    go_roundw
                    case rel =>
                      refine times_step (hn := ⟨8, 0, noS, 0, mv, -1⟩) (n := n) (st' := { st with left := l3.drop 2, m := st.m + 1 }) (k := k) ?_ (by simp only [List.length_drop]; omega) (by simp only [List.length_drop]; omega) (by simp only; omega) hm hS5 hgx5 hz hgz5 hRep5 HU5.out hsz5 rfl hS6 hU6
                      rw [← HR.out, timesS, if_neg (by rw [hstar]; decide), if_pos hbr, HB.out, if_pos ⟨of_decide_eq_true HOK.out, hpre, by omega, by omega, by omega⟩]
                      simp only
                      rw [nodeS_some (st := { st with left := l3.drop 2 }) hm]
                    case measure =>
                      rw [hLL.out, (hS6.setRow hgx6 _).leftLen]
                      simp only [List.length_drop]; omega
                  · go_wp2_with (first | (go_at_call 14; refine (must_true _).mono ?_; rintro e w' ⟨rfl, rfl⟩) | ((with_reducible apply ldNode); (focus rfl); (focus ((try simp (disch := (first | (simp only [sz_alloc, sz_set, sz_row, sz_drew, sz_drewN] <;> omega) | omega)) only [hq_eq, hq_ne, hq_set, hq_row, hq_drew, hq_drewN]) <;> (first | rfl | assumption))); (focus (first | assumption | exact ndA_size _ _ _ _ _ _ _))) | ((with_reducible apply bsNode); (focus rfl); (focus (first | assumption | exact ndA_size _ _ _ _ _ _ _))))
                    refine (node_no _ b { st with left := l3.drop 2 } _ (hS5.alloc _) h0 h1 (by simp only; omega)).mono ?_
                    rintro e w6 ⟨rfl, hU6⟩
                    go_wp2_with fail
                    refine ⟨rfl, ?_⟩
                    rw [← HR.out, timesS, if_neg (by rw [hstar]; decide), if_pos hbr, HB.out, if_pos ⟨of_decide_eq_true HOK.out, hpre, by omega, by omega, by omega⟩]
                    simp only
                    rw [nodeS_none (st := { st with left := l3.drop 2 }) (by simp only; omega)]
                    exact ⟨rfl, (HU5.out.alloc _).trans hU6.sp⟩
                · have hdmvn : decide (mv ≤ 255) = false := by simpa using hqmvn
                  go_wp2_with (go_at_call 14; refine (must_false _).mono ?_; rintro e w' ⟨rfl, rfl⟩)
                  refine ⟨rfl, ?_⟩
                  rw [← HR.out, timesS, if_neg (by rw [hstar]; decide), if_pos hbr, HB.out, if_neg (by rintro ⟨-, -, _, _, _⟩; omega)]
                  exact ⟨rfl, HU5.out⟩
              · have hpre : Lib.hasPrefix l3 [92, 125] = false := by simpa using hpre
                go_wp2_with fail
                refine (take_st _ b _ _ hS4).mono ?_
                rintro e w5 ⟨rfl, hS5, hU5⟩
                rw [show ((⟨#[92, 125]⟩ : ByteArray).data.toList) = [92, 125] from rfl] at hS5 ⊢
                simp only at hS5 ⊢
                rw [hpre]
                go_wp2_with (go_at_call 14; refine (must_false _).mono ?_; rintro e w' ⟨rfl, rfl⟩)
                refine ⟨rfl, ?_⟩
                rw [← HR.out, timesS, if_neg (by rw [hstar]; decide), if_pos hbr, HB.out, if_neg (by rintro ⟨-, h, -⟩; rw [hpre] at h; cases h)]
                exact ⟨rfl, HU4.out.trans hU5.sp⟩
        · have hc : Lib.hasPrefix l2 [44] = false := by simpa using hc
          simp only [hc, Bool.false_eq_true, if_false] at hB0
          go_wp2_with fail
          refine (take_st _ b _ _ hS3).mono ?_
          rintro e w4 ⟨rfl, hS4, hU4⟩
          rw [show ((⟨#[44]⟩ : ByteArray).data.toList) = [44] from rfl] at hS4 ⊢
          simp only at hS4 ⊢
          rw [hc]
          rw [trimPrefix_no hc] at hS4
          have hgx4 := keepNode_atB (D := fun _ => True) hS3 hU4 _ _ _ trivial hgx3
          have hgz4 := keepNode_atB (D := fun _ => True) hS3 hU4 _ _ _ trivial hgz3
          have hRep4 := hRep3.keep (keepNode_atB hS3 hU4)
          have hsz4 : w.heap.size + 2 ≤ w4.heap.size := Nat.le_trans hsz3 hU4.size
          have HU4 := Lib.hid (HU3.out.trans hU4.sp)
          clear hgx3 hgz3 hRep3 hsz3
          have HB := Lib.hid hB0
          have hl3l : l2.length ≤ l2.length := Nat.le_refl _
          clear hB0 hU4 hS3 hU3 hS2 hU2 hS1
          generalize hl3 : l2 = l3 at *
          clear hl3
          cases okb with
          | false =>
            go_wp2_with (go_at_call 14; refine (must_false _).mono ?_; rintro e w' ⟨rfl, rfl⟩)
            refine ⟨rfl, ?_⟩
            rw [← HR.out, timesS, if_neg (by rw [hstar]; decide), if_pos hbr, HB.out, if_neg (by rintro ⟨h, -⟩; have h2 := HOK.out; rw [decide_eq_true h] at h2; cases h2)]
            exact ⟨rfl, HU4.out⟩
          | true =>
            by_cases hpre : Lib.hasPrefix l3 [92, 125] = true
            · have hlen3 := hasPrefix_len hpre
              simp only [List.length_cons, List.length_nil, Nat.zero_add, Nat.reduceAdd] at hlen3
              go_wp2_with fail
              refine (take_st _ b _ _ hS4).mono ?_
              rintro e w5 ⟨rfl, hS5, hU5⟩
              rw [show ((⟨#[92, 125]⟩ : ByteArray).data.toList) = [92, 125] from rfl] at hS5 ⊢
              simp only at hS5 ⊢
              rw [hpre]
              rw [trimPrefix_yes hpre] at hS5
              simp only [List.length_cons, List.length_nil, Nat.zero_add, Nat.reduceAdd] at hS5
              have hgx5 := keepNode_atB (D := fun _ => True) hS4 hU5 _ _ _ trivial hgx4
              have hgz5 := keepNode_atB (D := fun _ => True) hS4 hU5 _ _ _ trivial hgz4
              have hRep5 := hRep4.keep (keepNode_atB hS4 hU5)
              have hsz5 : w.heap.size + 2 ≤ w5.heap.size := Nat.le_trans hsz4 hU5.size
              have HU5 := Lib.hid (HU4.out.trans hU5.sp)
              have hN1 : (ndH h kv).all (·.oneCell') = true := ndA_one _ _ _ _ _ _ _ hRep5.one
              have hNs : (ndH h kv).size = 262 := ndA_size _ _ _ _ _ _ _
              clear hgx4 hgz4 hRep4 hU5 hS4 hsz4
              by_cases hqmvn : mv ≤ 255
              · have hdmvn : decide (mv ≤ 255) = true := by simpa using hqmvn
                have hdm : decide (mv ≤ mv) = true := by simp
                have hdz : decide (mv < 0) = false := by simp; omega
                by_cases hm : st.m + 1 ≤ 200
                · go_wp2_with (first | (go_at_call 14; refine (must_true _).mono ?_; rintro e w' ⟨rfl, rfl⟩) | ((with_reducible apply ldNode); (focus rfl); (focus ((try simp (disch := (first | (simp only [sz_alloc, sz_set, sz_row, sz_drew, sz_drewN] <;> omega) | omega)) only [hq_eq, hq_ne, hq_set, hq_row, hq_drew, hq_drewN]) <;> (first | rfl | assumption))); (focus (first | assumption | exact ndA_size _ _ _ _ _ _ _))) | ((with_reducible apply bsNode); (focus rfl); (focus (first | assumption | exact ndA_size _ _ _ _ _ _ _))))
                  refine (node_yes _ b { st with left := l3.drop 2 } _ (hS5.alloc _) h0 hm (ndA_size _ _ _ _ _ _ _) (ndA_one _ _ _ _ _ _ _ rfl)).mono ?_
                  rintro e w6 ⟨rfl, hS6, hU6⟩
                  have hgx6 := keepNode_atB (D := fun _ => True) (hS5.alloc _) hU6 _ _ _ trivial (Keep.alloc (D := fun _ => True) _ _ _ _ trivial hgx5)
                  go_wp2_with ((with_reducible apply stNode); (focus rfl); (focus rfl); (focus ((try simp (disch := (first | (simp only [sz_alloc, sz_set, sz_row, sz_drew, sz_drewN] <;> omega) | omega)) only [hq_eq, hq_ne, hq_set, hq_row, hq_drew, hq_drewN]) <;> (first | rfl | assumption))); (focus (first | assumption | exact ndA_size _ _ _ _ _ _ _)); (focus (first | assumption | exact ndA_size _ _ _ _ _ _ _)); (focus (first | assumption | exact ndA_one _ _ _ _ _ _ _ rfl)))
                  go_roundw
                  case rel =>
                    refine times_step (hn := ⟨8, 0, noS, 0, mv, mv⟩) (n := n) (st' := { st with left := l3.drop 2, m := st.m + 1 }) (k := k) ?_ (by simp only [List.length_drop]; omega) (by simp only [List.length_drop]; omega) (by simp only; omega) hm hS5 hgx5 hz hgz5 hRep5 HU5.out hsz5 rfl hS6 hU6
                    rw [← HR.out, timesS, if_neg (by rw [hstar]; decide), if_pos hbr, HB.out, if_pos ⟨of_decide_eq_true HOK.out, hpre, by omega, by omega, by omega⟩]
                    simp only
                    rw [nodeS_some (st := { st with left := l3.drop 2 }) hm]
                  case measure =>
                    rw [hLL.out, (hS6.setRow hgx6 _).leftLen]
                    simp only [List.length_drop]; omega
                · go_wp2_with (first | (go_at_call 14; refine (must_true _).mono ?_; rintro e w' ⟨rfl, rfl⟩) | ((with_reducible apply ldNode); (focus rfl); (focus ((try simp (disch := (first | (simp only [sz_alloc, sz_set, sz_row, sz_drew, sz_drewN] <;> omega) | omega)) only [hq_eq, hq_ne, hq_set, hq_row, hq_drew, hq_drewN]) <;> (first | rfl | assumption))); (focus (first | assumption | exact ndA_size _ _ _ _ _ _ _))) | ((with_reducible apply bsNode); (focus rfl); (focus (first | assumption | exact ndA_size _ _ _ _ _ _ _))))
                  refine (node_no _ b { st with left := l3.drop 2 } _ (hS5.alloc _) h0 h1 (by simp only; omega)).mono ?_
                  rintro e w6 ⟨rfl, hU6⟩
                  go_wp2_with fail
                  refine ⟨rfl, ?_⟩
                  rw [← HR.out, timesS, if_neg (by rw [hstar]; decide), if_pos hbr, HB.out, if_pos ⟨of_decide_eq_true HOK.out, hpre, by omega, by omega, by omega⟩]
                  simp only
                  rw [nodeS_none (st := { st with left := l3.drop 2 }) (by simp only; omega)]
                  exact ⟨rfl, (HU5.out.alloc _).trans hU6.sp⟩
              · have hdmvn : decide (mv ≤ 255) = false := by simpa using hqmvn
                go_wp2_with (go_at_call 14; refine (must_false _).mono ?_; rintro e w' ⟨rfl, rfl⟩)
                refine ⟨rfl, ?_⟩
                rw [← HR.out, timesS, if_neg (by rw [hstar]; decide), if_pos hbr, HB.out, if_neg (by rintro ⟨-, -, _, _, _⟩; omega)]
                exact ⟨rfl, HU5.out⟩
            · have hpre : Lib.hasPrefix l3 [92, 125] = false := by simpa using hpre
              go_wp2_with fail
              refine (take_st _ b _ _ hS4).mono ?_
              rintro e w5 ⟨rfl, hS5, hU5⟩
              rw [show ((⟨#[92, 125]⟩ : ByteArray).data.toList) = [92, 125] from rfl] at hS5 ⊢
              simp only at hS5 ⊢
              rw [hpre]
              go_wp2_with (go_at_call 14; refine (must_false _).mono ?_; rintro e w' ⟨rfl, rfl⟩)
              refine ⟨rfl, ?_⟩
              rw [← HR.out, timesS, if_neg (by rw [hstar]; decide), if_pos hbr, HB.out, if_neg (by rintro ⟨-, h, -⟩; rw [hpre] at h; cases h)]
              exact ⟨rfl, HU4.out.trans hU5.sp⟩
      · have hbr : Lib.hasPrefix st.left [92, 123] = false := by simpa using hbr
        go_wp2_with fail
        refine (take_st _ b _ _ hS1).mono ?_
        rintro e w2 ⟨rfl, hS2, hU2⟩
        rw [show ((⟨#[92, 123]⟩ : ByteArray).data.toList) = [92, 123] from rfl] at hS2 ⊢
        simp only at hS2 ⊢
        rw [hbr]
        rw [trimPrefix_no hbr] at hS2
        have hgx2 := keepNode_atB (D := fun _ => True) hS1 hU2 _ _ _ trivial hgx1
        have hgz2 := keepNode_atB (D := fun _ => True) hS1 hU2 _ _ _ trivial hgz1
        have hRep2 := hRep1.keep (keepNode_atB hS1 hU2)
        have HU2 := Lib.hid (HU1.out.trans hU2.sp)
        have hN1 : (ndH h kv).all (·.oneCell') = true := ndA_one _ _ _ _ _ _ _ hRep2.one
        have hNs : (ndH h kv).size = 262 := ndA_size _ _ _ _ _ _ _
        clear hgx1 hgz1 hRep1 hU2 hS1
        go_wp2_with (first | ((with_reducible apply ldNode); (focus rfl); (focus ((try simp (disch := (first | (simp only [sz_alloc, sz_set, sz_row, sz_drew, sz_drewN] <;> omega) | omega)) only [hq_eq, hq_ne, hq_set, hq_row, hq_drew, hq_drewN]) <;> (first | rfl | assumption))); (focus (first | assumption | exact ndA_size _ _ _ _ _ _ _))) | ((with_reducible apply stNode); (focus rfl); (focus rfl); (focus ((try simp (disch := (first | (simp only [sz_alloc, sz_set, sz_row, sz_drew, sz_drewN] <;> omega) | omega)) only [hq_eq, hq_ne, hq_set, hq_row, hq_drew, hq_drewN]) <;> (first | rfl | assumption))); (focus (first | assumption | exact ndA_size _ _ _ _ _ _ _)); (focus (first | assumption | exact ndA_size _ _ _ _ _ _ _)); (focus (first | assumption | exact ndA_one _ _ _ _ _ _ _ rfl))))
        refine retNode rfl rfl rfl (setRow_heap _ _ _ _ _ _ hgz2) hNs ?_
        rw [← HR.out, timesS, if_neg (by rw [hstar]; decide), if_neg (by rw [hbr]; decide)]
        exact ⟨kv, rfl, (hRep2.keep (Keep.setRow _ _ fun j hj _ => by omega)).mono fun j hj _ => (by
          rcases hj with hj | hj
          · exact .inl hj.1
          · right; omega), hS2.setRow hgz2 _, HU2.out.setRow _ _ fun hh => absurd hh (by omega)⟩
end Go.Proofs.YtkbfckigndkkkaaDoor
