/-
  Walks: the other parts of an expression in brackets.
-/
import Derived.Test.YtkbfckigndkkkaaDoorCls2
import Derived.Test.YtkbfckigndkkkaaDoorReg
namespace Go.Proofs.YtkbfckigndkkkaaDoor
set_option linter.unusedSimpArgs false
set_option linter.unusedVariables false
open Go Go.RowKit

/-- The last branches: a byte, or a stretch of them. -/
def zeroS (s : ByteArray) : Option ((UInt8 → Bool) × List UInt8) :=
  if h : 2 < s.size then
    (if s[1] = 45 ∧ s[2] ≠ 93 then (if s[0].toNat ≤ s[2].toNat ∧ clsKind (s.data.toList.drop 2) = 0 then some (between s[0].toNat s[2].toNat, s.data.toList.drop 3) else none)
     else some (between s[0].toNat s[0].toNat, s.data.toList.drop 1))
  else if h : 0 < s.size then some (between s[0].toNat s[0].toNat, s.data.toList.drop 1) else none
theorem mem_ancs {l : List Oper} {i k : Nat} (h : (ancs l i).contains k = true) : k ∈ ancs l i := List.contains_iff_mem.1 h

set_option maxRecDepth 100000 in set_option maxHeartbeats 4000000 in
theorem cpart_one2 (w : World) (s : ByteArray) (hk : clsKind s.data.toList = 0) (hp : 0 < s.size) (hz : s.size ≤ 2) :
    Calls Tryd.prog 38 #[.string s] w (PartOut w (some (between (s[0]'hp).toNat (s[0]'hp).toNat, s.data.toList.drop 1))) := by
  have hne : s.toList.isEmpty = false := by
    rw [bytes_toList]
    cases h : s.data.toList with
    | nil => rw [bytes_len, h] at hp; cases hp
    | cons a t => rfl
  have HK := Lib.hid hk
  clear hk
  go_enter Tryd.func38, Tryd.ntmps38
  go_wp2_with fail
  refine (kind_any w s).mono ?_
  rintro e w' ⟨rfl, rfl⟩
  rw [HK.out]
  go_wp2_with fail
  all_goals (try (exfalso; omega))
  refine wp_region_vals (by kernel_rfl) (fun i v w2 => match i with
    | 0 => v = .string s | 1 => v = .int .u8 (s[0]'hp).toNat | 2 => v = .string s | 3 => v = .int .u8 (s[0]'hp).toNat | 4 => IsV w'.heap.size w2 v (between (s[0]'hp).toNat (s[0]'hp).toNat) | 5 => v = .string s | 6 => v = .string (s.extract 1 s.size) | 7 => IsV w'.heap.size w2 v (between (s[0]'hp).toNat (s[0]'hp).toNat) | 8 => v = .string (s.extract 1 s.size) | 9 => v = .bool true | _ => True)
    (fun w2 => w'.heap.size ≤ w2.heap.size) (by kernel_rfl) (by kernel_rfl) (by kernel_rfl) ?_ (Nat.le_refl _) (fun w1 w2 h1 h2 => Nat.le_trans h1 h2.size) ?_ ?_
  · intro i v w1 w2 h hB
    match i, h with
    | 0, h => exact h
    | 1, h => exact h
    | 2, h => exact h
    | 3, h => exact h
    | 4, h => exact IsV.below h hB
    | 5, h => exact h
    | 6, h => exact h
    | 7, h => exact IsV.below h hB
    | 8, h => exact h
    | 9, h => exact h
    | n + 10, h => trivial
  · intro i o ho
    match i, ho with
    | 0, ho =>
      obtain rfl := Option.some.inj ho
      clear ho
      intro vals w1 a hg hF ha
      have e0 : a.eval (.tmp 0) = .string s := (ha (.tmp 0) (by simp [Op.operands, Call.operands])).trans rfl
      refine (if_pos rfl).mpr (.inl ?_)
      refine wp_value (v := .string s) ?_ ⟨_, rfl, rfl, Below.refl _ _⟩
      have hc : ∀ v, a.eval (.const v) = v := fun _ => rfl
      have hfn : ∀ f, a.eval (.func f) = .func (.func f) #[] #[] := fun _ => rfl
      clear ha hF
      generalize a.eval = ρ at *
      simp [execOp, go_sem, e0, hp, hc, hfn]
    | 1, ho =>
      obtain rfl := Option.some.inj ho
      clear ho
      intro vals w1 a hg hF ha
      have f0 : vals 0 = .string s := hF 0 (mem_ancs (by kernel_rfl))
      have e0 : a.eval (.tmp 78) = .string s := ((ha (.tmp 78) (by simp [Op.operands, Call.operands])).trans rfl).trans f0
      refine (if_pos rfl).mpr (.inl ?_)
      refine wp_value (v := .int .u8 (s[0]'hp).toNat) ?_ ⟨_, rfl, rfl, Below.refl _ _⟩
      have hc : ∀ v, a.eval (.const v) = v := fun _ => rfl
      have hfn : ∀ f, a.eval (.func f) = .func (.func f) #[] #[] := fun _ => rfl
      clear ha hF
      generalize a.eval = ρ at *
      simp [execOp, go_sem, e0, hp, hc, hfn]
    | 2, ho =>
      obtain rfl := Option.some.inj ho
      clear ho
      intro vals w1 a hg hF ha
      have e0 : a.eval (.tmp 0) = .string s := (ha (.tmp 0) (by simp [Op.operands, Call.operands])).trans rfl
      refine (if_pos rfl).mpr (.inl ?_)
      refine wp_value (v := .string s) ?_ ⟨_, rfl, rfl, Below.refl _ _⟩
      have hc : ∀ v, a.eval (.const v) = v := fun _ => rfl
      have hfn : ∀ f, a.eval (.func f) = .func (.func f) #[] #[] := fun _ => rfl
      clear ha hF
      generalize a.eval = ρ at *
      simp [execOp, go_sem, e0, hp, hc, hfn]
    | 3, ho =>
      obtain rfl := Option.some.inj ho
      clear ho
      intro vals w1 a hg hF ha
      have f0 : vals 2 = .string s := hF 2 (mem_ancs (by kernel_rfl))
      have e0 : a.eval (.tmp 80) = .string s := ((ha (.tmp 80) (by simp [Op.operands, Call.operands])).trans rfl).trans f0
      refine (if_pos rfl).mpr (.inl ?_)
      refine wp_value (v := .int .u8 (s[0]'hp).toNat) ?_ ⟨_, rfl, rfl, Below.refl _ _⟩
      have hc : ∀ v, a.eval (.const v) = v := fun _ => rfl
      have hfn : ∀ f, a.eval (.func f) = .func (.func f) #[] #[] := fun _ => rfl
      clear ha hF
      generalize a.eval = ρ at *
      simp [execOp, go_sem, e0, hp, hc, hfn]
    | 4, ho =>
      obtain rfl := Option.some.inj ho
      clear ho
      intro vals w1 a hg hF ha
      have f0 : vals 1 = .int .u8 (s[0]'hp).toNat := hF 1 (mem_ancs (by kernel_rfl))
      have e0 : a.eval (.tmp 79) = .int .u8 (s[0]'hp).toNat := ((ha (.tmp 79) (by simp [Op.operands, Call.operands])).trans rfl).trans f0
      have f1 : vals 3 = .int .u8 (s[0]'hp).toNat := hF 3 (mem_ancs (by kernel_rfl))
      have e1 : a.eval (.tmp 81) = .int .u8 (s[0]'hp).toNat := ((ha (.tmp 81) (by simp [Op.operands, Call.operands])).trans rfl).trans f1
      refine (if_pos rfl).mpr (.inl ?_)
      refine wp_calls (f := 47) (args := #[.int .u8 (s[0]'hp).toNat, .int .u8 (s[0]'hp).toNat]) (w1 := w1) ?_ (span_exact _ _ _) ⟨_, rfl, (span_is _ _ _).less hg, span_below _ _ _⟩
      have hc : ∀ v, a.eval (.const v) = v := fun _ => rfl
      have hfn : ∀ f, a.eval (.func f) = .func (.func f) #[] #[] := fun _ => rfl
      clear ha hF
      generalize a.eval = ρ at *
      simp [execOp, go_sem, e0, e1, hp, hc, hfn]
    | 5, ho =>
      obtain rfl := Option.some.inj ho
      clear ho
      intro vals w1 a hg hF ha
      have e0 : a.eval (.tmp 0) = .string s := (ha (.tmp 0) (by simp [Op.operands, Call.operands])).trans rfl
      refine (if_pos rfl).mpr (.inl ?_)
      refine wp_value (v := .string s) ?_ ⟨_, rfl, rfl, Below.refl _ _⟩
      have hc : ∀ v, a.eval (.const v) = v := fun _ => rfl
      have hfn : ∀ f, a.eval (.func f) = .func (.func f) #[] #[] := fun _ => rfl
      clear ha hF
      generalize a.eval = ρ at *
      simp [execOp, go_sem, e0, hp, hc, hfn]
    | 6, ho =>
      obtain rfl := Option.some.inj ho
      clear ho
      intro vals w1 a hg hF ha
      have f0 : vals 5 = .string s := hF 5 (mem_ancs (by kernel_rfl))
      have e0 : a.eval (.tmp 83) = .string s := ((ha (.tmp 83) (by simp [Op.operands, Call.operands])).trans rfl).trans f0
      refine (if_pos rfl).mpr (.inl ?_)
      refine wp_value (v := .string (s.extract 1 s.size)) ?_ ⟨_, rfl, rfl, Below.refl _ _⟩
      have hc : ∀ v, a.eval (.const v) = v := fun _ => rfl
      have hfn : ∀ f, a.eval (.func f) = .func (.func f) #[] #[] := fun _ => rfl
      clear ha hF
      generalize a.eval = ρ at *
      simp [execOp, go_sem, e0, hp, hc, hfn]
      intro h; omega
    | 7, ho =>
      obtain rfl := Option.some.inj ho
      clear ho
      intro vals w1 a hg hF ha
      have f0 := hF 4 (mem_ancs (by kernel_rfl))
      have e0 : a.eval (.tmp 82) = vals 4 := (ha (.tmp 82) (by simp [Op.operands])).trans rfl
      refine (if_pos rfl).mpr (.inl ?_)
      refine wp_value (v := vals 4) ?_ ⟨_, rfl, f0, Below.refl _ _⟩
      clear ha hF f0
      generalize a.eval = ρ at *
      simp [execOp, go_sem, e0]
    | 8, ho =>
      obtain rfl := Option.some.inj ho
      clear ho
      intro vals w1 a hg hF ha
      have f0 : vals 6 = .string (s.extract 1 s.size) := hF 6 (mem_ancs (by kernel_rfl))
      have e0 : a.eval (.tmp 84) = .string (s.extract 1 s.size) := ((ha (.tmp 84) (by simp [Op.operands, Call.operands])).trans rfl).trans f0
      refine (if_pos rfl).mpr (.inl ?_)
      refine wp_value (v := .string (s.extract 1 s.size)) ?_ ⟨_, rfl, rfl, Below.refl _ _⟩
      have hc : ∀ v, a.eval (.const v) = v := fun _ => rfl
      have hfn : ∀ f, a.eval (.func f) = .func (.func f) #[] #[] := fun _ => rfl
      clear ha hF
      generalize a.eval = ρ at *
      simp [execOp, go_sem, e0, hp, hc, hfn]
    | 9, ho =>
      obtain rfl := Option.some.inj ho
      clear ho
      intro vals w1 a hg hF ha
      refine (if_pos rfl).mpr (.inl ?_)
      refine wp_value (v := .bool true) ?_ ⟨_, rfl, rfl, Below.refl _ _⟩
      have hc : ∀ v, a.eval (.const v) = v := fun _ => rfl
      have hfn : ∀ f, a.eval (.func f) = .func (.func f) #[] #[] := fun _ => rfl
      clear ha hF
      generalize a.eval = ρ at *
      simp [execOp, go_sem, hp, hc, hfn]
    | n + 10, ho => simp at ho
  · intro vals w2 hB hG hV
    have v7 := hV 7 (by decide)
    have v8 := hV 8 (by decide)
    have v9 := hV 9 (by decide)
    simp only at v7 v8 v9
    simp only [putList, Act.put]
    go_wp2_with fail
    go_ret3
    simp
    all_goals (try rw [v8])
    all_goals (try rw [v9])
    exact ⟨⟨vals 7, s.extract 1 s.size, rfl, (bytes_extract s 1).trans (by rw [List.drop_one]), v7⟩, hB⟩

set_option maxRecDepth 100000 in set_option maxHeartbeats 4000000 in
theorem cpart_one3 (w : World) (s : ByteArray) (hk : clsKind s.data.toList = 0) (hp : 0 < s.size) (h3 : 2 < s.size) (h1 : 1 < s.size) (hd : (((s[1]'h1).toNat : Int) == 45) = false) (hd2 : ((s[1]'h1).toNat : Int) ≠ 45) :
    Calls Tryd.prog 38 #[.string s] w (PartOut w (some (between (s[0]'hp).toNat (s[0]'hp).toNat, s.data.toList.drop 1))) := by
  have hne : s.toList.isEmpty = false := by
    rw [bytes_toList]
    cases h : s.data.toList with
    | nil => rw [bytes_len, h] at hp; cases hp
    | cons a t => rfl
  have HK := Lib.hid hk
  clear hk
  go_enter Tryd.func38, Tryd.ntmps38
  go_wp2_with fail
  refine (kind_any w s).mono ?_
  rintro e w' ⟨rfl, rfl⟩
  rw [HK.out]
  go_wp2_with fail
  all_goals (try (exfalso; omega))
  refine wp_region_vals (by kernel_rfl) (fun i v w2 => match i with
    | 0 => v = .string s | 1 => v = .int .u8 (s[0]'hp).toNat | 2 => v = .string s | 3 => v = .int .u8 (s[0]'hp).toNat | 4 => IsV w'.heap.size w2 v (between (s[0]'hp).toNat (s[0]'hp).toNat) | 5 => v = .string s | 6 => v = .string (s.extract 1 s.size) | 7 => IsV w'.heap.size w2 v (between (s[0]'hp).toNat (s[0]'hp).toNat) | 8 => v = .string (s.extract 1 s.size) | 9 => v = .bool true | _ => True)
    (fun w2 => w'.heap.size ≤ w2.heap.size) (by kernel_rfl) (by kernel_rfl) (by kernel_rfl) ?_ (Nat.le_refl _) (fun w1 w2 h1 h2 => Nat.le_trans h1 h2.size) ?_ ?_
  · intro i v w1 w2 h hB
    match i, h with
    | 0, h => exact h
    | 1, h => exact h
    | 2, h => exact h
    | 3, h => exact h
    | 4, h => exact IsV.below h hB
    | 5, h => exact h
    | 6, h => exact h
    | 7, h => exact IsV.below h hB
    | 8, h => exact h
    | 9, h => exact h
    | n + 10, h => trivial
  · intro i o ho
    match i, ho with
    | 0, ho =>
      obtain rfl := Option.some.inj ho
      clear ho
      intro vals w1 a hg hF ha
      have e0 : a.eval (.tmp 0) = .string s := (ha (.tmp 0) (by simp [Op.operands, Call.operands])).trans rfl
      refine (if_pos rfl).mpr (.inl ?_)
      refine wp_value (v := .string s) ?_ ⟨_, rfl, rfl, Below.refl _ _⟩
      have hc : ∀ v, a.eval (.const v) = v := fun _ => rfl
      have hfn : ∀ f, a.eval (.func f) = .func (.func f) #[] #[] := fun _ => rfl
      clear ha hF
      generalize a.eval = ρ at *
      simp [execOp, go_sem, e0, hp, hc, hfn]
    | 1, ho =>
      obtain rfl := Option.some.inj ho
      clear ho
      intro vals w1 a hg hF ha
      have f0 : vals 0 = .string s := hF 0 (mem_ancs (by kernel_rfl))
      have e0 : a.eval (.tmp 78) = .string s := ((ha (.tmp 78) (by simp [Op.operands, Call.operands])).trans rfl).trans f0
      refine (if_pos rfl).mpr (.inl ?_)
      refine wp_value (v := .int .u8 (s[0]'hp).toNat) ?_ ⟨_, rfl, rfl, Below.refl _ _⟩
      have hc : ∀ v, a.eval (.const v) = v := fun _ => rfl
      have hfn : ∀ f, a.eval (.func f) = .func (.func f) #[] #[] := fun _ => rfl
      clear ha hF
      generalize a.eval = ρ at *
      simp [execOp, go_sem, e0, hp, hc, hfn]
    | 2, ho =>
      obtain rfl := Option.some.inj ho
      clear ho
      intro vals w1 a hg hF ha
      have e0 : a.eval (.tmp 0) = .string s := (ha (.tmp 0) (by simp [Op.operands, Call.operands])).trans rfl
      refine (if_pos rfl).mpr (.inl ?_)
      refine wp_value (v := .string s) ?_ ⟨_, rfl, rfl, Below.refl _ _⟩
      have hc : ∀ v, a.eval (.const v) = v := fun _ => rfl
      have hfn : ∀ f, a.eval (.func f) = .func (.func f) #[] #[] := fun _ => rfl
      clear ha hF
      generalize a.eval = ρ at *
      simp [execOp, go_sem, e0, hp, hc, hfn]
    | 3, ho =>
      obtain rfl := Option.some.inj ho
      clear ho
      intro vals w1 a hg hF ha
      have f0 : vals 2 = .string s := hF 2 (mem_ancs (by kernel_rfl))
      have e0 : a.eval (.tmp 80) = .string s := ((ha (.tmp 80) (by simp [Op.operands, Call.operands])).trans rfl).trans f0
      refine (if_pos rfl).mpr (.inl ?_)
      refine wp_value (v := .int .u8 (s[0]'hp).toNat) ?_ ⟨_, rfl, rfl, Below.refl _ _⟩
      have hc : ∀ v, a.eval (.const v) = v := fun _ => rfl
      have hfn : ∀ f, a.eval (.func f) = .func (.func f) #[] #[] := fun _ => rfl
      clear ha hF
      generalize a.eval = ρ at *
      simp [execOp, go_sem, e0, hp, hc, hfn]
    | 4, ho =>
      obtain rfl := Option.some.inj ho
      clear ho
      intro vals w1 a hg hF ha
      have f0 : vals 1 = .int .u8 (s[0]'hp).toNat := hF 1 (mem_ancs (by kernel_rfl))
      have e0 : a.eval (.tmp 79) = .int .u8 (s[0]'hp).toNat := ((ha (.tmp 79) (by simp [Op.operands, Call.operands])).trans rfl).trans f0
      have f1 : vals 3 = .int .u8 (s[0]'hp).toNat := hF 3 (mem_ancs (by kernel_rfl))
      have e1 : a.eval (.tmp 81) = .int .u8 (s[0]'hp).toNat := ((ha (.tmp 81) (by simp [Op.operands, Call.operands])).trans rfl).trans f1
      refine (if_pos rfl).mpr (.inl ?_)
      refine wp_calls (f := 47) (args := #[.int .u8 (s[0]'hp).toNat, .int .u8 (s[0]'hp).toNat]) (w1 := w1) ?_ (span_exact _ _ _) ⟨_, rfl, (span_is _ _ _).less hg, span_below _ _ _⟩
      have hc : ∀ v, a.eval (.const v) = v := fun _ => rfl
      have hfn : ∀ f, a.eval (.func f) = .func (.func f) #[] #[] := fun _ => rfl
      clear ha hF
      generalize a.eval = ρ at *
      simp [execOp, go_sem, e0, e1, hp, hc, hfn]
    | 5, ho =>
      obtain rfl := Option.some.inj ho
      clear ho
      intro vals w1 a hg hF ha
      have e0 : a.eval (.tmp 0) = .string s := (ha (.tmp 0) (by simp [Op.operands, Call.operands])).trans rfl
      refine (if_pos rfl).mpr (.inl ?_)
      refine wp_value (v := .string s) ?_ ⟨_, rfl, rfl, Below.refl _ _⟩
      have hc : ∀ v, a.eval (.const v) = v := fun _ => rfl
      have hfn : ∀ f, a.eval (.func f) = .func (.func f) #[] #[] := fun _ => rfl
      clear ha hF
      generalize a.eval = ρ at *
      simp [execOp, go_sem, e0, hp, hc, hfn]
    | 6, ho =>
      obtain rfl := Option.some.inj ho
      clear ho
      intro vals w1 a hg hF ha
      have f0 : vals 5 = .string s := hF 5 (mem_ancs (by kernel_rfl))
      have e0 : a.eval (.tmp 83) = .string s := ((ha (.tmp 83) (by simp [Op.operands, Call.operands])).trans rfl).trans f0
      refine (if_pos rfl).mpr (.inl ?_)
      refine wp_value (v := .string (s.extract 1 s.size)) ?_ ⟨_, rfl, rfl, Below.refl _ _⟩
      have hc : ∀ v, a.eval (.const v) = v := fun _ => rfl
      have hfn : ∀ f, a.eval (.func f) = .func (.func f) #[] #[] := fun _ => rfl
      clear ha hF
      generalize a.eval = ρ at *
      simp [execOp, go_sem, e0, hp, hc, hfn]
      intro h; omega
    | 7, ho =>
      obtain rfl := Option.some.inj ho
      clear ho
      intro vals w1 a hg hF ha
      have f0 := hF 4 (mem_ancs (by kernel_rfl))
      have e0 : a.eval (.tmp 82) = vals 4 := (ha (.tmp 82) (by simp [Op.operands])).trans rfl
      refine (if_pos rfl).mpr (.inl ?_)
      refine wp_value (v := vals 4) ?_ ⟨_, rfl, f0, Below.refl _ _⟩
      clear ha hF f0
      generalize a.eval = ρ at *
      simp [execOp, go_sem, e0]
    | 8, ho =>
      obtain rfl := Option.some.inj ho
      clear ho
      intro vals w1 a hg hF ha
      have f0 : vals 6 = .string (s.extract 1 s.size) := hF 6 (mem_ancs (by kernel_rfl))
      have e0 : a.eval (.tmp 84) = .string (s.extract 1 s.size) := ((ha (.tmp 84) (by simp [Op.operands, Call.operands])).trans rfl).trans f0
      refine (if_pos rfl).mpr (.inl ?_)
      refine wp_value (v := .string (s.extract 1 s.size)) ?_ ⟨_, rfl, rfl, Below.refl _ _⟩
      have hc : ∀ v, a.eval (.const v) = v := fun _ => rfl
      have hfn : ∀ f, a.eval (.func f) = .func (.func f) #[] #[] := fun _ => rfl
      clear ha hF
      generalize a.eval = ρ at *
      simp [execOp, go_sem, e0, hp, hc, hfn]
    | 9, ho =>
      obtain rfl := Option.some.inj ho
      clear ho
      intro vals w1 a hg hF ha
      refine (if_pos rfl).mpr (.inl ?_)
      refine wp_value (v := .bool true) ?_ ⟨_, rfl, rfl, Below.refl _ _⟩
      have hc : ∀ v, a.eval (.const v) = v := fun _ => rfl
      have hfn : ∀ f, a.eval (.func f) = .func (.func f) #[] #[] := fun _ => rfl
      clear ha hF
      generalize a.eval = ρ at *
      simp [execOp, go_sem, hp, hc, hfn]
    | n + 10, ho => simp at ho
  · intro vals w2 hB hG hV
    have v7 := hV 7 (by decide)
    have v8 := hV 8 (by decide)
    have v9 := hV 9 (by decide)
    simp only at v7 v8 v9
    simp only [putList, Act.put]
    go_wp2_with fail
    go_ret3
    simp
    all_goals (try rw [v8])
    all_goals (try rw [v9])
    exact ⟨⟨vals 7, s.extract 1 s.size, rfl, (bytes_extract s 1).trans (by rw [List.drop_one]), v7⟩, hB⟩

set_option maxRecDepth 100000 in set_option maxHeartbeats 4000000 in
theorem cpart_one4 (w : World) (s : ByteArray) (hk : clsKind s.data.toList = 0) (hp : 0 < s.size) (h3 : 2 < s.size) (h1 : 1 < s.size) (hd : ((s[1]'h1).toNat : Int) = 45) (hd2 : (((s[2]'h3).toNat : Int) != 93) = false) :
    Calls Tryd.prog 38 #[.string s] w (PartOut w (some (between (s[0]'hp).toNat (s[0]'hp).toNat, s.data.toList.drop 1))) := by
  have hne : s.toList.isEmpty = false := by
    rw [bytes_toList]
    cases h : s.data.toList with
    | nil => rw [bytes_len, h] at hp; cases hp
    | cons a t => rfl
  have HK := Lib.hid hk
  clear hk
  go_enter Tryd.func38, Tryd.ntmps38
  go_wp2_with fail
  refine (kind_any w s).mono ?_
  rintro e w' ⟨rfl, rfl⟩
  rw [HK.out]
  go_wp2_with fail
  all_goals (try (exfalso; omega))
  refine wp_region_vals (by kernel_rfl) (fun i v w2 => match i with
    | 0 => v = .string s | 1 => v = .int .u8 (s[0]'hp).toNat | 2 => v = .string s | 3 => v = .int .u8 (s[0]'hp).toNat | 4 => IsV w'.heap.size w2 v (between (s[0]'hp).toNat (s[0]'hp).toNat) | 5 => v = .string s | 6 => v = .string (s.extract 1 s.size) | 7 => IsV w'.heap.size w2 v (between (s[0]'hp).toNat (s[0]'hp).toNat) | 8 => v = .string (s.extract 1 s.size) | 9 => v = .bool true | _ => True)
    (fun w2 => w'.heap.size ≤ w2.heap.size) (by kernel_rfl) (by kernel_rfl) (by kernel_rfl) ?_ (Nat.le_refl _) (fun w1 w2 h1 h2 => Nat.le_trans h1 h2.size) ?_ ?_
  · intro i v w1 w2 h hB
    match i, h with
    | 0, h => exact h
    | 1, h => exact h
    | 2, h => exact h
    | 3, h => exact h
    | 4, h => exact IsV.below h hB
    | 5, h => exact h
    | 6, h => exact h
    | 7, h => exact IsV.below h hB
    | 8, h => exact h
    | 9, h => exact h
    | n + 10, h => trivial
  · intro i o ho
    match i, ho with
    | 0, ho =>
      obtain rfl := Option.some.inj ho
      clear ho
      intro vals w1 a hg hF ha
      have e0 : a.eval (.tmp 0) = .string s := (ha (.tmp 0) (by simp [Op.operands, Call.operands])).trans rfl
      refine (if_pos rfl).mpr (.inl ?_)
      refine wp_value (v := .string s) ?_ ⟨_, rfl, rfl, Below.refl _ _⟩
      have hc : ∀ v, a.eval (.const v) = v := fun _ => rfl
      have hfn : ∀ f, a.eval (.func f) = .func (.func f) #[] #[] := fun _ => rfl
      clear ha hF
      generalize a.eval = ρ at *
      simp [execOp, go_sem, e0, hp, hc, hfn]
    | 1, ho =>
      obtain rfl := Option.some.inj ho
      clear ho
      intro vals w1 a hg hF ha
      have f0 : vals 0 = .string s := hF 0 (mem_ancs (by kernel_rfl))
      have e0 : a.eval (.tmp 78) = .string s := ((ha (.tmp 78) (by simp [Op.operands, Call.operands])).trans rfl).trans f0
      refine (if_pos rfl).mpr (.inl ?_)
      refine wp_value (v := .int .u8 (s[0]'hp).toNat) ?_ ⟨_, rfl, rfl, Below.refl _ _⟩
      have hc : ∀ v, a.eval (.const v) = v := fun _ => rfl
      have hfn : ∀ f, a.eval (.func f) = .func (.func f) #[] #[] := fun _ => rfl
      clear ha hF
      generalize a.eval = ρ at *
      simp [execOp, go_sem, e0, hp, hc, hfn]
    | 2, ho =>
      obtain rfl := Option.some.inj ho
      clear ho
      intro vals w1 a hg hF ha
      have e0 : a.eval (.tmp 0) = .string s := (ha (.tmp 0) (by simp [Op.operands, Call.operands])).trans rfl
      refine (if_pos rfl).mpr (.inl ?_)
      refine wp_value (v := .string s) ?_ ⟨_, rfl, rfl, Below.refl _ _⟩
      have hc : ∀ v, a.eval (.const v) = v := fun _ => rfl
      have hfn : ∀ f, a.eval (.func f) = .func (.func f) #[] #[] := fun _ => rfl
      clear ha hF
      generalize a.eval = ρ at *
      simp [execOp, go_sem, e0, hp, hc, hfn]
    | 3, ho =>
      obtain rfl := Option.some.inj ho
      clear ho
      intro vals w1 a hg hF ha
      have f0 : vals 2 = .string s := hF 2 (mem_ancs (by kernel_rfl))
      have e0 : a.eval (.tmp 80) = .string s := ((ha (.tmp 80) (by simp [Op.operands, Call.operands])).trans rfl).trans f0
      refine (if_pos rfl).mpr (.inl ?_)
      refine wp_value (v := .int .u8 (s[0]'hp).toNat) ?_ ⟨_, rfl, rfl, Below.refl _ _⟩
      have hc : ∀ v, a.eval (.const v) = v := fun _ => rfl
      have hfn : ∀ f, a.eval (.func f) = .func (.func f) #[] #[] := fun _ => rfl
      clear ha hF
      generalize a.eval = ρ at *
      simp [execOp, go_sem, e0, hp, hc, hfn]
    | 4, ho =>
      obtain rfl := Option.some.inj ho
      clear ho
      intro vals w1 a hg hF ha
      have f0 : vals 1 = .int .u8 (s[0]'hp).toNat := hF 1 (mem_ancs (by kernel_rfl))
      have e0 : a.eval (.tmp 79) = .int .u8 (s[0]'hp).toNat := ((ha (.tmp 79) (by simp [Op.operands, Call.operands])).trans rfl).trans f0
      have f1 : vals 3 = .int .u8 (s[0]'hp).toNat := hF 3 (mem_ancs (by kernel_rfl))
      have e1 : a.eval (.tmp 81) = .int .u8 (s[0]'hp).toNat := ((ha (.tmp 81) (by simp [Op.operands, Call.operands])).trans rfl).trans f1
      refine (if_pos rfl).mpr (.inl ?_)
      refine wp_calls (f := 47) (args := #[.int .u8 (s[0]'hp).toNat, .int .u8 (s[0]'hp).toNat]) (w1 := w1) ?_ (span_exact _ _ _) ⟨_, rfl, (span_is _ _ _).less hg, span_below _ _ _⟩
      have hc : ∀ v, a.eval (.const v) = v := fun _ => rfl
      have hfn : ∀ f, a.eval (.func f) = .func (.func f) #[] #[] := fun _ => rfl
      clear ha hF
      generalize a.eval = ρ at *
      simp [execOp, go_sem, e0, e1, hp, hc, hfn]
    | 5, ho =>
      obtain rfl := Option.some.inj ho
      clear ho
      intro vals w1 a hg hF ha
      have e0 : a.eval (.tmp 0) = .string s := (ha (.tmp 0) (by simp [Op.operands, Call.operands])).trans rfl
      refine (if_pos rfl).mpr (.inl ?_)
      refine wp_value (v := .string s) ?_ ⟨_, rfl, rfl, Below.refl _ _⟩
      have hc : ∀ v, a.eval (.const v) = v := fun _ => rfl
      have hfn : ∀ f, a.eval (.func f) = .func (.func f) #[] #[] := fun _ => rfl
      clear ha hF
      generalize a.eval = ρ at *
      simp [execOp, go_sem, e0, hp, hc, hfn]
    | 6, ho =>
      obtain rfl := Option.some.inj ho
      clear ho
      intro vals w1 a hg hF ha
      have f0 : vals 5 = .string s := hF 5 (mem_ancs (by kernel_rfl))
      have e0 : a.eval (.tmp 83) = .string s := ((ha (.tmp 83) (by simp [Op.operands, Call.operands])).trans rfl).trans f0
      refine (if_pos rfl).mpr (.inl ?_)
      refine wp_value (v := .string (s.extract 1 s.size)) ?_ ⟨_, rfl, rfl, Below.refl _ _⟩
      have hc : ∀ v, a.eval (.const v) = v := fun _ => rfl
      have hfn : ∀ f, a.eval (.func f) = .func (.func f) #[] #[] := fun _ => rfl
      clear ha hF
      generalize a.eval = ρ at *
      simp [execOp, go_sem, e0, hp, hc, hfn]
      intro h; omega
    | 7, ho =>
      obtain rfl := Option.some.inj ho
      clear ho
      intro vals w1 a hg hF ha
      have f0 := hF 4 (mem_ancs (by kernel_rfl))
      have e0 : a.eval (.tmp 82) = vals 4 := (ha (.tmp 82) (by simp [Op.operands])).trans rfl
      refine (if_pos rfl).mpr (.inl ?_)
      refine wp_value (v := vals 4) ?_ ⟨_, rfl, f0, Below.refl _ _⟩
      clear ha hF f0
      generalize a.eval = ρ at *
      simp [execOp, go_sem, e0]
    | 8, ho =>
      obtain rfl := Option.some.inj ho
      clear ho
      intro vals w1 a hg hF ha
      have f0 : vals 6 = .string (s.extract 1 s.size) := hF 6 (mem_ancs (by kernel_rfl))
      have e0 : a.eval (.tmp 84) = .string (s.extract 1 s.size) := ((ha (.tmp 84) (by simp [Op.operands, Call.operands])).trans rfl).trans f0
      refine (if_pos rfl).mpr (.inl ?_)
      refine wp_value (v := .string (s.extract 1 s.size)) ?_ ⟨_, rfl, rfl, Below.refl _ _⟩
      have hc : ∀ v, a.eval (.const v) = v := fun _ => rfl
      have hfn : ∀ f, a.eval (.func f) = .func (.func f) #[] #[] := fun _ => rfl
      clear ha hF
      generalize a.eval = ρ at *
      simp [execOp, go_sem, e0, hp, hc, hfn]
    | 9, ho =>
      obtain rfl := Option.some.inj ho
      clear ho
      intro vals w1 a hg hF ha
      refine (if_pos rfl).mpr (.inl ?_)
      refine wp_value (v := .bool true) ?_ ⟨_, rfl, rfl, Below.refl _ _⟩
      have hc : ∀ v, a.eval (.const v) = v := fun _ => rfl
      have hfn : ∀ f, a.eval (.func f) = .func (.func f) #[] #[] := fun _ => rfl
      clear ha hF
      generalize a.eval = ρ at *
      simp [execOp, go_sem, hp, hc, hfn]
    | n + 10, ho => simp at ho
  · intro vals w2 hB hG hV
    have v7 := hV 7 (by decide)
    have v8 := hV 8 (by decide)
    have v9 := hV 9 (by decide)
    simp only at v7 v8 v9
    simp only [putList, Act.put]
    go_wp2_with fail
    go_ret3
    simp
    all_goals (try rw [v8])
    all_goals (try rw [v9])
    exact ⟨⟨vals 7, s.extract 1 s.size, rfl, (bytes_extract s 1).trans (by rw [List.drop_one]), v7⟩, hB⟩

set_option maxRecDepth 100000 in set_option maxHeartbeats 4000000 in
theorem cpart_norange (w : World) (s : ByteArray) (hk : clsKind s.data.toList = 0) (hp : 0 < s.size) (h3 : 2 < s.size) (h1 : 1 < s.size) (hd : ((s[1]'h1).toNat : Int) = 45) (hd2 : (((s[2]'h3).toNat : Int) != 93) = true) (hle : decide ((s[0]'hp).toNat ≤ (s[2]'h3).toNat) = false) :
    Calls Tryd.prog 38 #[.string s] w (PartOut w (none)) := by
  have hne : s.toList.isEmpty = false := by
    rw [bytes_toList]
    cases h : s.data.toList with
    | nil => rw [bytes_len, h] at hp; cases hp
    | cons a t => rfl
  have HK := Lib.hid hk
  clear hk
  go_enter Tryd.func38, Tryd.ntmps38
  go_wp2_with fail
  refine (kind_any w s).mono ?_
  rintro e w' ⟨rfl, rfl⟩
  rw [HK.out]
  go_wp2_with fail
  all_goals (try (exfalso; omega))
  refine wp_region_vals (by kernel_rfl) (fun i v w2 => match i with
    | 0 => v = .string s | 1 => v = .int .u8 (s[0]'hp).toNat | 2 => v = .string s | 3 => v = .int .u8 (s[2]'h3).toNat | 4 => IsV w'.heap.size w2 v (between (s[0]'hp).toNat (s[2]'h3).toNat) | 5 => v = .string s | 6 => v = .string (s.extract 3 s.size) | 7 => v = .string s | 8 => v = .int .u8 (s[0]'hp).toNat | 9 => v = .string s | 10 => v = .int .u8 (s[2]'h3).toNat | 11 => v = .bool false | 12 => v = .bool false | 17 => v = .bool false | 18 => IsV w'.heap.size w2 v (between (s[0]'hp).toNat (s[2]'h3).toNat) | 19 => v = .string (s.extract 3 s.size) | 20 => v = .bool false | _ => True)
    (fun w2 => w'.heap.size ≤ w2.heap.size) (by kernel_rfl) (by kernel_rfl) (by kernel_rfl) ?_ (Nat.le_refl _) (fun w1 w2 h1 h2 => Nat.le_trans h1 h2.size) ?_ ?_
  · intro i v w1 w2 h hB
    match i, h with
    | 0, h => exact h
    | 1, h => exact h
    | 2, h => exact h
    | 3, h => exact h
    | 4, h => exact IsV.below h hB
    | 5, h => exact h
    | 6, h => exact h
    | 7, h => exact h
    | 8, h => exact h
    | 9, h => exact h
    | 10, h => exact h
    | 11, h => exact h
    | 12, h => exact h
    | 13, h => exact h
    | 14, h => exact h
    | 15, h => exact h
    | 16, h => exact h
    | 17, h => exact h
    | 18, h => exact IsV.below h hB
    | 19, h => exact h
    | 20, h => exact h
    | n + 21, h => trivial
  · intro i o ho
    match i, ho with
    | 0, ho =>
      obtain rfl := Option.some.inj ho
      clear ho
      intro vals w1 a hg hF ha
      have e0 : a.eval (.tmp 0) = .string s := (ha (.tmp 0) (by simp [Op.operands, Call.operands])).trans rfl
      refine (if_pos rfl).mpr (.inl ?_)
      refine wp_value (v := .string s) ?_ ⟨_, rfl, rfl, Below.refl _ _⟩
      have hc : ∀ v, a.eval (.const v) = v := fun _ => rfl
      have hfn : ∀ f, a.eval (.func f) = .func (.func f) #[] #[] := fun _ => rfl
      clear ha hF
      generalize a.eval = ρ at *
      simp [execOp, go_sem, e0, hp, hc, hfn]
    | 1, ho =>
      obtain rfl := Option.some.inj ho
      clear ho
      intro vals w1 a hg hF ha
      have f0 : vals 0 = .string s := hF 0 (mem_ancs (by kernel_rfl))
      have e0 : a.eval (.tmp 60) = .string s := ((ha (.tmp 60) (by simp [Op.operands, Call.operands])).trans rfl).trans f0
      refine (if_pos rfl).mpr (.inl ?_)
      refine wp_value (v := .int .u8 (s[0]'hp).toNat) ?_ ⟨_, rfl, rfl, Below.refl _ _⟩
      have hc : ∀ v, a.eval (.const v) = v := fun _ => rfl
      have hfn : ∀ f, a.eval (.func f) = .func (.func f) #[] #[] := fun _ => rfl
      clear ha hF
      generalize a.eval = ρ at *
      simp [execOp, go_sem, e0, hp, hc, hfn]
    | 2, ho =>
      obtain rfl := Option.some.inj ho
      clear ho
      intro vals w1 a hg hF ha
      have e0 : a.eval (.tmp 0) = .string s := (ha (.tmp 0) (by simp [Op.operands, Call.operands])).trans rfl
      refine (if_pos rfl).mpr (.inl ?_)
      refine wp_value (v := .string s) ?_ ⟨_, rfl, rfl, Below.refl _ _⟩
      have hc : ∀ v, a.eval (.const v) = v := fun _ => rfl
      have hfn : ∀ f, a.eval (.func f) = .func (.func f) #[] #[] := fun _ => rfl
      clear ha hF
      generalize a.eval = ρ at *
      simp [execOp, go_sem, e0, hp, hc, hfn]
    | 3, ho =>
      obtain rfl := Option.some.inj ho
      clear ho
      intro vals w1 a hg hF ha
      have f0 : vals 2 = .string s := hF 2 (mem_ancs (by kernel_rfl))
      have e0 : a.eval (.tmp 62) = .string s := ((ha (.tmp 62) (by simp [Op.operands, Call.operands])).trans rfl).trans f0
      refine (if_pos rfl).mpr (.inl ?_)
      refine wp_value (v := .int .u8 (s[2]'h3).toNat) ?_ ⟨_, rfl, rfl, Below.refl _ _⟩
      have hc : ∀ v, a.eval (.const v) = v := fun _ => rfl
      have hfn : ∀ f, a.eval (.func f) = .func (.func f) #[] #[] := fun _ => rfl
      clear ha hF
      generalize a.eval = ρ at *
      simp [execOp, go_sem, e0, hp, hc, hfn, h3, (show (2 : Int) < s.size by omega)]
    | 4, ho =>
      obtain rfl := Option.some.inj ho
      clear ho
      intro vals w1 a hg hF ha
      have f0 : vals 1 = .int .u8 (s[0]'hp).toNat := hF 1 (mem_ancs (by kernel_rfl))
      have e0 : a.eval (.tmp 61) = .int .u8 (s[0]'hp).toNat := ((ha (.tmp 61) (by simp [Op.operands, Call.operands])).trans rfl).trans f0
      have f1 : vals 3 = .int .u8 (s[2]'h3).toNat := hF 3 (mem_ancs (by kernel_rfl))
      have e1 : a.eval (.tmp 63) = .int .u8 (s[2]'h3).toNat := ((ha (.tmp 63) (by simp [Op.operands, Call.operands])).trans rfl).trans f1
      refine (if_pos rfl).mpr (.inl ?_)
      refine wp_calls (f := 47) (args := #[.int .u8 (s[0]'hp).toNat, .int .u8 (s[2]'h3).toNat]) (w1 := w1) ?_ (span_exact _ _ _) ⟨_, rfl, (span_is _ _ _).less hg, span_below _ _ _⟩
      have hc : ∀ v, a.eval (.const v) = v := fun _ => rfl
      have hfn : ∀ f, a.eval (.func f) = .func (.func f) #[] #[] := fun _ => rfl
      clear ha hF
      generalize a.eval = ρ at *
      simp [execOp, go_sem, e0, e1, hp, hc, hfn]
    | 5, ho =>
      obtain rfl := Option.some.inj ho
      clear ho
      intro vals w1 a hg hF ha
      have e0 : a.eval (.tmp 0) = .string s := (ha (.tmp 0) (by simp [Op.operands, Call.operands])).trans rfl
      refine (if_pos rfl).mpr (.inl ?_)
      refine wp_value (v := .string s) ?_ ⟨_, rfl, rfl, Below.refl _ _⟩
      have hc : ∀ v, a.eval (.const v) = v := fun _ => rfl
      have hfn : ∀ f, a.eval (.func f) = .func (.func f) #[] #[] := fun _ => rfl
      clear ha hF
      generalize a.eval = ρ at *
      simp [execOp, go_sem, e0, hp, hc, hfn]
    | 6, ho =>
      obtain rfl := Option.some.inj ho
      clear ho
      intro vals w1 a hg hF ha
      have f0 : vals 5 = .string s := hF 5 (mem_ancs (by kernel_rfl))
      have e0 : a.eval (.tmp 65) = .string s := ((ha (.tmp 65) (by simp [Op.operands, Call.operands])).trans rfl).trans f0
      refine (if_pos rfl).mpr (.inl ?_)
      refine wp_value (v := .string (s.extract 3 s.size)) ?_ ⟨_, rfl, rfl, Below.refl _ _⟩
      have hc : ∀ v, a.eval (.const v) = v := fun _ => rfl
      have hfn : ∀ f, a.eval (.func f) = .func (.func f) #[] #[] := fun _ => rfl
      clear ha hF
      generalize a.eval = ρ at *
      simp [execOp, go_sem, e0, hp, hc, hfn]
      intro h; omega
    | 7, ho =>
      obtain rfl := Option.some.inj ho
      clear ho
      intro vals w1 a hg hF ha
      have e0 : a.eval (.tmp 0) = .string s := (ha (.tmp 0) (by simp [Op.operands, Call.operands])).trans rfl
      refine (if_pos rfl).mpr (.inl ?_)
      refine wp_value (v := .string s) ?_ ⟨_, rfl, rfl, Below.refl _ _⟩
      have hc : ∀ v, a.eval (.const v) = v := fun _ => rfl
      have hfn : ∀ f, a.eval (.func f) = .func (.func f) #[] #[] := fun _ => rfl
      clear ha hF
      generalize a.eval = ρ at *
      simp [execOp, go_sem, e0, hp, hc, hfn]
    | 8, ho =>
      obtain rfl := Option.some.inj ho
      clear ho
      intro vals w1 a hg hF ha
      have f0 : vals 7 = .string s := hF 7 (mem_ancs (by kernel_rfl))
      have e0 : a.eval (.tmp 67) = .string s := ((ha (.tmp 67) (by simp [Op.operands, Call.operands])).trans rfl).trans f0
      refine (if_pos rfl).mpr (.inl ?_)
      refine wp_value (v := .int .u8 (s[0]'hp).toNat) ?_ ⟨_, rfl, rfl, Below.refl _ _⟩
      have hc : ∀ v, a.eval (.const v) = v := fun _ => rfl
      have hfn : ∀ f, a.eval (.func f) = .func (.func f) #[] #[] := fun _ => rfl
      clear ha hF
      generalize a.eval = ρ at *
      simp [execOp, go_sem, e0, hp, hc, hfn]
    | 9, ho =>
      obtain rfl := Option.some.inj ho
      clear ho
      intro vals w1 a hg hF ha
      have e0 : a.eval (.tmp 0) = .string s := (ha (.tmp 0) (by simp [Op.operands, Call.operands])).trans rfl
      refine (if_pos rfl).mpr (.inl ?_)
      refine wp_value (v := .string s) ?_ ⟨_, rfl, rfl, Below.refl _ _⟩
      have hc : ∀ v, a.eval (.const v) = v := fun _ => rfl
      have hfn : ∀ f, a.eval (.func f) = .func (.func f) #[] #[] := fun _ => rfl
      clear ha hF
      generalize a.eval = ρ at *
      simp [execOp, go_sem, e0, hp, hc, hfn]
    | 10, ho =>
      obtain rfl := Option.some.inj ho
      clear ho
      intro vals w1 a hg hF ha
      have f0 : vals 9 = .string s := hF 9 (mem_ancs (by kernel_rfl))
      have e0 : a.eval (.tmp 69) = .string s := ((ha (.tmp 69) (by simp [Op.operands, Call.operands])).trans rfl).trans f0
      refine (if_pos rfl).mpr (.inl ?_)
      refine wp_value (v := .int .u8 (s[2]'h3).toNat) ?_ ⟨_, rfl, rfl, Below.refl _ _⟩
      have hc : ∀ v, a.eval (.const v) = v := fun _ => rfl
      have hfn : ∀ f, a.eval (.func f) = .func (.func f) #[] #[] := fun _ => rfl
      clear ha hF
      generalize a.eval = ρ at *
      simp [execOp, go_sem, e0, hp, hc, hfn, h3, (show (2 : Int) < s.size by omega)]
    | 11, ho =>
      obtain rfl := Option.some.inj ho
      clear ho
      intro vals w1 a hg hF ha
      have f0 : vals 8 = .int .u8 (s[0]'hp).toNat := hF 8 (mem_ancs (by kernel_rfl))
      have e0 : a.eval (.tmp 68) = .int .u8 (s[0]'hp).toNat := ((ha (.tmp 68) (by simp [Op.operands, Call.operands])).trans rfl).trans f0
      have f1 : vals 10 = .int .u8 (s[2]'h3).toNat := hF 10 (mem_ancs (by kernel_rfl))
      have e1 : a.eval (.tmp 70) = .int .u8 (s[2]'h3).toNat := ((ha (.tmp 70) (by simp [Op.operands, Call.operands])).trans rfl).trans f1
      refine (if_pos rfl).mpr (.inl ?_)
      refine wp_value (v := .bool false) ?_ ⟨_, rfl, rfl, Below.refl _ _⟩
      have hc : ∀ v, a.eval (.const v) = v := fun _ => rfl
      have hfn : ∀ f, a.eval (.func f) = .func (.func f) #[] #[] := fun _ => rfl
      clear ha hF
      generalize a.eval = ρ at *
      simp [execOp, go_sem, e0, e1, hp, hc, hfn, hle]
    | 12, ho =>
      obtain rfl := Option.some.inj ho
      clear ho
      intro vals w1 a hg hF ha
      have f0 : vals 11 = .bool false := hF 11 (mem_ancs (by kernel_rfl))
      have e0 : a.eval (.tmp 71) = .bool false := ((ha (.tmp 71) (by simp [Op.operands, Call.operands])).trans rfl).trans f0
      refine (if_pos rfl).mpr (.inl ?_)
      refine wp_value (v := .bool false) ?_ ⟨_, rfl, rfl, Below.refl _ _⟩
      have hc : ∀ v, a.eval (.const v) = v := fun _ => rfl
      have hfn : ∀ f, a.eval (.func f) = .func (.func f) #[] #[] := fun _ => rfl
      clear ha hF
      generalize a.eval = ρ at *
      simp [execOp, go_sem, e0, hp, hc, hfn]
    | 13, ho =>
      obtain rfl := Option.some.inj ho
      clear ho
      intro vals w1 a hg hF ha
      have g0 : vals 12 = .bool false := hF 12 (mem_ancs (by kernel_rfl))
      exact (if_neg (by simp [wantedV, g0])).mpr trivial
    | 14, ho =>
      obtain rfl := Option.some.inj ho
      clear ho
      intro vals w1 a hg hF ha
      have g0 : vals 12 = .bool false := hF 12 (mem_ancs (by kernel_rfl))
      exact (if_neg (by simp [wantedV, g0])).mpr trivial
    | 15, ho =>
      obtain rfl := Option.some.inj ho
      clear ho
      intro vals w1 a hg hF ha
      have g0 : vals 12 = .bool false := hF 12 (mem_ancs (by kernel_rfl))
      exact (if_neg (by simp [wantedV, g0])).mpr trivial
    | 16, ho =>
      obtain rfl := Option.some.inj ho
      clear ho
      intro vals w1 a hg hF ha
      have g0 : vals 12 = .bool false := hF 12 (mem_ancs (by kernel_rfl))
      exact (if_neg (by simp [wantedV, g0])).mpr trivial
    | 17, ho =>
      obtain rfl := Option.some.inj ho
      clear ho
      intro vals w1 a hg hF ha
      have f0 : vals 12 = .bool false := hF 12 (mem_ancs (by kernel_rfl))
      have e0 : a.eval (.tmp 72) = .bool false := ((ha (.tmp 72) (by simp [Op.operands, Call.operands])).trans rfl).trans f0
      refine (if_pos rfl).mpr (.inl ?_)
      refine wp_value (v := .bool false) ?_ ⟨_, rfl, rfl, Below.refl _ _⟩
      have hc : ∀ v, a.eval (.const v) = v := fun _ => rfl
      have hfn : ∀ f, a.eval (.func f) = .func (.func f) #[] #[] := fun _ => rfl
      clear ha hF
      generalize a.eval = ρ at *
      simp [execOp, go_sem, e0, hp, hc, hfn]
    | 18, ho =>
      obtain rfl := Option.some.inj ho
      clear ho
      intro vals w1 a hg hF ha
      have f0 := hF 4 (mem_ancs (by kernel_rfl))
      have e0 : a.eval (.tmp 64) = vals 4 := (ha (.tmp 64) (by simp [Op.operands])).trans rfl
      refine (if_pos rfl).mpr (.inl ?_)
      refine wp_value (v := vals 4) ?_ ⟨_, rfl, f0, Below.refl _ _⟩
      clear ha hF f0
      generalize a.eval = ρ at *
      simp [execOp, go_sem, e0]
    | 19, ho =>
      obtain rfl := Option.some.inj ho
      clear ho
      intro vals w1 a hg hF ha
      have f0 : vals 6 = .string (s.extract 3 s.size) := hF 6 (mem_ancs (by kernel_rfl))
      have e0 : a.eval (.tmp 66) = .string (s.extract 3 s.size) := ((ha (.tmp 66) (by simp [Op.operands, Call.operands])).trans rfl).trans f0
      refine (if_pos rfl).mpr (.inl ?_)
      refine wp_value (v := .string (s.extract 3 s.size)) ?_ ⟨_, rfl, rfl, Below.refl _ _⟩
      have hc : ∀ v, a.eval (.const v) = v := fun _ => rfl
      have hfn : ∀ f, a.eval (.func f) = .func (.func f) #[] #[] := fun _ => rfl
      clear ha hF
      generalize a.eval = ρ at *
      simp [execOp, go_sem, e0, hp, hc, hfn]
    | 20, ho =>
      obtain rfl := Option.some.inj ho
      clear ho
      intro vals w1 a hg hF ha
      have f0 : vals 17 = .bool false := hF 17 (mem_ancs (by kernel_rfl))
      have e0 : a.eval (.tmp 77) = .bool false := ((ha (.tmp 77) (by simp [Op.operands, Call.operands])).trans rfl).trans f0
      refine (if_pos rfl).mpr (.inl ?_)
      refine wp_value (v := .bool false) ?_ ⟨_, rfl, rfl, Below.refl _ _⟩
      have hc : ∀ v, a.eval (.const v) = v := fun _ => rfl
      have hfn : ∀ f, a.eval (.func f) = .func (.func f) #[] #[] := fun _ => rfl
      clear ha hF
      generalize a.eval = ρ at *
      simp [execOp, go_sem, e0, hp, hc, hfn]
    | n + 21, ho => simp at ho
  · intro vals w2 hB hG hV
    have v7 := hV 18 (by decide)
    have v8 := hV 19 (by decide)
    have v9 := hV 20 (by decide)
    simp only at v7 v8 v9
    simp only [putList, Act.put]
    go_wp2_with fail
    go_ret3
    simp
    all_goals (try rw [v8])
    all_goals (try rw [v9])
    exact ⟨⟨_, _, rfl⟩, hB⟩

end Go.Proofs.YtkbfckigndkkkaaDoor
