/-
  Walk: the document's reader: a number.
-/
import Derived.Test.YtkbfckigndkkkaaDoorRr1
namespace Go.Proofs.YtkbfckigndkkkaaDoor
set_option linter.unusedSimpArgs false
set_option linter.unusedVariables false
open Go Go.RowKit

def digStep (n : Int) (c : UInt8) : Int := min (n * 10 + ((c.toNat : Int) - 48)) 1000
def digVal (l : List UInt8) : Int := l.foldl digStep 0
def rDs (s : ByteArray) (st : RSt) : List UInt8 := (s.data.toList.drop st.pl).takeWhile isDig
/-- What 'digits' computes. -/
def rDig (s : ByteArray) (st : RSt) : RSt := { st with pl := st.pl + (rDs s st).length }
theorem tw_take {α : Type} (p : α → Bool) : ∀ (l : List α) (j : Nat), j ≤ (l.takeWhile p).length → l.takeWhile p = (l.takeWhile p).take j ++ (l.drop j).takeWhile p
  | l, 0, _ => by simp
  | [], j + 1, h => by simp at h
  | a :: l, j + 1, h => by
    by_cases ha : p a = true
    · rw [List.takeWhile_cons_of_pos ha] at h ⊢
      have := tw_take p l j (by simpa using h)
      simp only [List.take_succ_cons, List.drop_succ_cons, List.cons_append]
      rw [← this]
    · rw [List.takeWhile_cons_of_neg ha] at h; simp at h
theorem dig_more {s : ByteArray} {st : RSt} {j : Nat} (hj : j ≤ (rDs s st).length) (h : st.pl + j < s.size) (hd : isDig (s[st.pl + j]'h) = true) :
    j + 1 ≤ (rDs s st).length ∧ (rDs s st).take (j + 1) = (rDs s st).take j ++ [s[st.pl + j]'h] := by
  have h1 := tw_take isDig (s.data.toList.drop st.pl) j hj
  have hl := bytes_len s
  have h2 : (s.data.toList.drop st.pl).drop j = s[st.pl + j]'h :: s.data.toList.drop (st.pl + j + 1) := by
    rw [List.drop_drop, List.drop_eq_getElem_cons (i := st.pl + j) (by omega)]; rfl
  rw [h2, List.takeWhile_cons_of_pos hd] at h1
  change rDs s st = (rDs s st).take j ++ _ at h1
  have h3 : ((rDs s st).take j).length = j := by rw [List.length_take]; omega
  constructor
  · have := congrArg List.length h1
    rw [List.length_append, h3, List.length_cons] at this
    omega
  · conv => lhs; rw [h1]
    rw [List.take_append, h3, List.take_of_length_le (by omega)]
    simp
theorem dig_stop {s : ByteArray} {st : RSt} {j : Nat} (hj : j ≤ (rDs s st).length) (h : ∀ h : st.pl + j < s.size, isDig (s[st.pl + j]'h) = false) : j = (rDs s st).length := by
  have h1 := tw_take isDig (s.data.toList.drop st.pl) j hj
  have hl := bytes_len s
  have h2 : ((s.data.toList.drop st.pl).drop j).takeWhile isDig = [] := by
    rw [List.drop_drop]
    rcases Nat.lt_or_ge (st.pl + j) s.size with h3 | h3
    · rw [List.drop_eq_getElem_cons (i := st.pl + j) (by omega)]
      exact List.takeWhile_cons_of_neg (by have := h h3; rw [show s.data.toList[st.pl + j] = s[st.pl + j]'h3 from rfl, this]; simp)
    · rw [List.drop_of_length_le (by omega)]; rfl
  rw [h2, List.append_nil] at h1
  change rDs s st = (rDs s st).take j at h1
  have := congrArg List.length h1
  rw [List.length_take] at this
  omega
theorem digStep_bd (n : Int) (c : UInt8) (h0 : 0 ≤ n) (h1 : isDig c = true) : 0 ≤ digStep n c ∧ digStep n c ≤ 1000 := by
  unfold isDig between at h1
  simp only [Bool.and_eq_true, decide_eq_true_eq] at h1
  unfold digStep
  omega
theorem digFold_bd : ∀ (l : List UInt8) (n : Int), 0 ≤ n → n ≤ 1000 → (∀ c ∈ l, isDig c = true) → 0 ≤ l.foldl digStep n ∧ l.foldl digStep n ≤ 1000
  | [], n, h0, h1, _ => ⟨h0, h1⟩
  | c :: l, n, h0, h1, h => by
    have hc := digStep_bd n c h0 (h c (by simp))
    exact digFold_bd l _ hc.1 hc.2 fun d hd => h d (by simp [hd])
theorem tw_all {α : Type} (p : α → Bool) : ∀ (l : List α) (c : α), c ∈ l.takeWhile p → p c = true
  | a :: l, c, h => by
    by_cases ha : p a = true
    · rw [List.takeWhile_cons_of_pos ha] at h
      rcases List.mem_cons.1 h with rfl | h
      · exact ha
      · exact tw_all p l c h
    · rw [List.takeWhile_cons_of_neg ha] at h; simp at h
theorem digVal_bd (s : ByteArray) (st : RSt) (j : Nat) : 0 ≤ digVal ((rDs s st).take j) ∧ digVal ((rDs s st).take j) ≤ 1000 :=
  digFold_bd _ 0 (by omega) (by omega) fun c hc => tw_all _ _ c (List.mem_of_mem_take hc)
theorem rDs_len (s : ByteArray) (st : RSt) (h : st.pl ≤ s.size) : st.pl + (rDs s st).length ≤ s.size := by
  have h1 := (List.takeWhile_sublist (l := s.data.toList.drop st.pl) isDig).length_le
  rw [List.length_drop, ← bytes_len] at h1
  unfold rDs
  omega
def plOf (w : World) (b : Nat) : Nat := match w.cell? ⟨b, 1, none⟩ with | some (.int _ i) => i.toNat | _ => 0
theorem RW.plOf {w : World} {b : Nat} {s : ByteArray} {st : RSt} (h : RW w b s st) : plOf w b = st.pl := by
  unfold Go.Proofs.YtkbfckigndkkkaaDoor.plOf; rw [h.c1]; simp
structure DigRel (w : World) (b : Nat) (s : ByteArray) (st : RSt) (v u : Value) (wr : World) : Prop where
  ex : ∃ j : Nat, j ≤ (rDs s st).length ∧ v = .int .i64 (digVal ((rDs s st).take j)) ∧ u = .bool (decide (0 < j)) ∧ RW wr b s { st with pl := st.pl + j } ∧ Upd (atB b) w wr
set_option maxRecDepth 100000 in set_option maxHeartbeats 4000000 in
theorem rdigits_any (w : World) (b : Nat) (s : ByteArray) (st : RSt) (hP : RW w b s st) (hI : st.pl ≤ s.size) (hl : s.size ≤ 1000) :
    Calls Tryd.prog 34 #[.pointer (some ⟨b, 0, none⟩)] w fun e w' => e = .returned (.tuple #[.int .i64 (digVal (rDs s st)), .bool (decide (rDs s st ≠ []))]) ∧ RW w' b s (rDig s st) ∧ Upd (atB b) w w' := by
  have hb := hP.lt
  have hdl := rDs_len s st hI
  have hAt : DigRel w b s st (.int .i64 0) (.bool false) w := ⟨0, Nat.zero_le _, by simp [digVal], rfl, hP, Upd.refl _ _⟩
  clear hP
  go_enter Tryd.func34, Tryd.ntmps34
  go_wp2_with fail
  go_loopw [4, 5] (fun v u wr => DigRel w b s st v u wr) (fun _ _ wr => s.size - plOf wr b)
  case atStart => exact hAt
  case round =>
    clear hAt
    obtain ⟨j, hj, rfl, rfl, hP, hU⟩ := hrel
    have hpl := hP.plOf
    simp only at hpl
    have bd := digVal_bd s st j
    obtain ⟨q, hq⟩ : ∃ q, st.pl + j = q := ⟨_, rfl⟩
    have hstop := @dig_stop s st j hj
    have hmore := @dig_more s st j hj
    rw [hq] at hP hpl
    have hmore : ∀ (h : q < s.size), isDig (s[q]'h) = true → j + 1 ≤ (rDs s st).length ∧ (rDs s st).take (j + 1) = (rDs s st).take j ++ [s[q]'h] := by subst hq; exact hmore
    have hstop : (∀ h : q < s.size, isDig (s[q]'h) = false) → j = (rDs s st).length := by subst hq; exact hstop
    have HPL := Lib.hid hpl
    have HM := Lib.hid hmore
    have HS := Lib.hid hstop
    clear hpl hmore hstop
    have hbr := hP.lt
    have c0 := hP.c0
    have c1 : wr.cell? ⟨b, 1, none⟩ = some (.int .i64 (q : Int)) := hP.c1
    have f1 := hP.free 1
    have e0 : wr.drew.cell? ⟨b, 0, none⟩ = some (.string s) := c0
    have e1 : wr.drew.cell? ⟨b, 1, none⟩ = some (.int .i64 (q : Int)) := c1
    have g0 : wr.drew.drew.cell? ⟨b, 0, none⟩ = some (.string s) := c0
    have g1 : wr.drew.drew.cell? ⟨b, 1, none⟩ = some (.int .i64 (q : Int)) := c1
    have k1 : wr.drew.drew.frozen? ⟨b, 1, none⟩ = false := f1
    have kb : b < wr.drew.drew.heap.size := hbr
    by_cases hlt : q < s.size
    · have hd0 : decide ((q : Int) < (s.size : Int)) = true := decide_eq_true (by omega)
      cases hd : isDig (s[q]'hlt) with
      | true =>
        have hdd := hd
        unfold isDig between at hdd
        simp only [Bool.and_eq_true, decide_eq_true_eq] at hdd
        have hA : decide ((48 : Int) ≤ ((s[q]'hlt).toNat : Int)) = true := decide_eq_true (by omega)
        have hB : decide (((s[q]'hlt).toNat : Int) ≤ 57) = true := decide_eq_true (by omega)
        have hwr : IntKind.u8.wrap (((s[q]'hlt).toNat : Int) - 48) = ((s[q]'hlt).toNat : Int) - 48 := by
          have hsg : IntKind.u8.signed = false := rfl
          simp [IntKind.wrap, IntKind.bits, hsg]; omega
        go_wp2_with fail
        go_region
        go_wp2_with fail
        go_region
        go_wp2_with fail
        have m := HM.out hlt hd
        have hP' := hP.setPl (p := (q : Int) + 1) (q + 1) (by simp)
        have hq2 : q + 1 = st.pl + (j + 1) := by omega
        refine ⟨⟨j + 1, m.1, by rw [m.2]; simp [digVal, digStep], by simp, by rw [← hq2]; exact hP'.drew.drew, (hU.setCell ⟨b, 1, none⟩ (.int .i64 ((q : Int) + 1)) fun _ => rfl).drew.drew⟩, ?_⟩
        rw [RW.plOf hP'.drew.drew, HPL.out]
        simp only; omega
      | false =>
        have hdd := hd
        unfold isDig between at hdd
        by_cases h48 : 48 ≤ (s[q]'hlt).toNat
        · have hA : decide ((48 : Int) ≤ ((s[q]'hlt).toNat : Int)) = true := decide_eq_true (by omega)
          have hB : decide (((s[q]'hlt).toNat : Int) ≤ 57) = false := by
            apply decide_eq_false
            intro h
            have h2 : (s[q]'hlt).toNat ≤ 57 := by omega
            simp [h48, h2] at hdd
          clear hdd
          go_wp2_with fail
          go_region
          go_wp2_with fail
          go_ret2
          have hj2 : j = (rDs s st).length := HS.out (by intro _; exact hd)
          have hq3 : q = st.pl + (rDs s st).length := by omega
          refine ⟨?_, ?_, hU.drew⟩
          · show Ending.returned (.tuple #[.int .i64 (digVal ((rDs s st).take j)), .bool (decide (0 < j))]) = _
            have hne : decide (0 < (rDs s st).length) = decide (rDs s st ≠ []) := by rw [decide_eq_decide]; exact List.length_pos_iff
            rw [hj2, List.take_length, hne]
          · unfold rDig
            rw [← hq3]
            exact hP.drew
        · have hA : decide ((48 : Int) ≤ ((s[q]'hlt).toNat : Int)) = false := decide_eq_false (by omega)
          clear hdd
          go_wp2_with fail
          go_region
          go_wp2_with fail
          go_ret2
          have hj2 : j = (rDs s st).length := HS.out (by intro _; exact hd)
          have hq3 : q = st.pl + (rDs s st).length := by omega
          refine ⟨?_, ?_, hU.drew⟩
          · show Ending.returned (.tuple #[.int .i64 (digVal ((rDs s st).take j)), .bool (decide (0 < j))]) = _
            have hne : decide (0 < (rDs s st).length) = decide (rDs s st ≠ []) := by rw [decide_eq_decide]; exact List.length_pos_iff
            rw [hj2, List.take_length, hne]
          · unfold rDig
            rw [← hq3]
            exact hP.drew
    · have hd0 : decide ((q : Int) < (s.size : Int)) = false := decide_eq_false (by omega)
      go_wp2_with fail
      go_region
      go_wp2_with fail
      go_ret2
      have hj2 : j = (rDs s st).length := HS.out (by intro h; exact absurd h hlt)
      have hq3 : q = st.pl + (rDs s st).length := by omega
      refine ⟨?_, ?_, hU.drew⟩
      · show Ending.returned (.tuple #[.int .i64 (digVal ((rDs s st).take j)), .bool (decide (0 < j))]) = _
        have hne : decide (0 < (rDs s st).length) = decide (rDs s st ≠ []) := by rw [decide_eq_decide]; exact List.length_pos_iff
        rw [hj2, List.take_length, hne]
      · unfold rDig
        rw [← hq3]
        exact hP.drew
end Go.Proofs.YtkbfckigndkkkaaDoor
