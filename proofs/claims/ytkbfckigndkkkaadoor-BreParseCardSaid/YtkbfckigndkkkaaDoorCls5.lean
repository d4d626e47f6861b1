/-
  Walk: a range in an expression in brackets.
-/
import Derived.Test.YtkbfckigndkkkaaDoorCls3
namespace Go.Proofs.YtkbfckigndkkkaaDoor
set_option linter.unusedSimpArgs false
set_option linter.unusedVariables false
open Go Go.RowKit

set_option maxRecDepth 100000 in set_option maxHeartbeats 4000000 in
theorem cpart_range (w : World) (s : ByteArray) (hk : clsKind s.data.toList = 0) (hp : 0 < s.size) (h3 : 2 < s.size) (h1 : 1 < s.size) (hd : ((s[1]'h1).toNat : Int) = 45) (hd2 : (((s[2]'h3).toNat : Int) != 93) = true) (hle : decide ((s[0]'hp).toNat ≤ (s[2]'h3).toNat) = true) :
    Calls Tryd.prog 38 #[.string s] w (PartOut w (if clsKind (s.data.toList.drop 2) = 0 then some (between (s[0]'hp).toNat (s[2]'h3).toNat, s.data.toList.drop 3) else none)) := by
  have hne : s.toList.isEmpty = false := by
    rw [bytes_toList]
    cases h : s.data.toList with
    | nil => rw [bytes_len, h] at hp; cases hp
    | cons a t => rfl
  have HK := Lib.hid hk
  clear hk
  go_enter Tryd.func38, Tryd.ntmps38
  go_wp2_with fail
  refine (kind_any w s).mono ?_
  rintro e w' ⟨rfl, rfl⟩
  rw [HK.out]
  go_wp2_with fail
  all_goals (try (exfalso; omega))
  refine wp_region_vals (by kernel_rfl) (fun i v w2 => match i with
    | 0 => v = .string s | 1 => v = .int .u8 (s[0]'hp).toNat | 2 => v = .string s | 3 => v = .int .u8 (s[2]'h3).toNat | 4 => IsV w'.heap.size w2 v (between (s[0]'hp).toNat (s[2]'h3).toNat) | 5 => v = .string s | 6 => v = .string (s.extract 3 s.size) | 7 => v = .string s | 8 => v = .int .u8 (s[0]'hp).toNat | 9 => v = .string s | 10 => v = .int .u8 (s[2]'h3).toNat | 11 => v = .bool true | 12 => v = .bool true | 13 => v = .string s | 14 => v = .string (s.extract 2 s.size) | 15 => v = .int .u8 (clsKind (s.data.toList.drop 2)).toNat | 16 => v = .bool (((clsKind (s.data.toList.drop 2)).toNat : Int) == 0) | 17 => v = .bool (((clsKind (s.data.toList.drop 2)).toNat : Int) == 0) | 18 => IsV w'.heap.size w2 v (between (s[0]'hp).toNat (s[2]'h3).toNat) | 19 => v = .string (s.extract 3 s.size) | 20 => v = .bool (((clsKind (s.data.toList.drop 2)).toNat : Int) == 0) | _ => True)
    (fun w2 => w'.heap.size ≤ w2.heap.size) (by kernel_rfl) (by kernel_rfl) (by kernel_rfl) ?_ (Nat.le_refl _) (fun w1 w2 h1 h2 => Nat.le_trans h1 h2.size) ?_ ?_
  · intro i v w1 w2 h hB
    match i, h with
    | 0, h => exact h
    | 1, h => exact h
    | 2, h => exact h
    | 3, h => exact h
    | 4, h => exact IsV.below h hB
    | 5, h => exact h
    | 6, h => exact h
    | 7, h => exact h
    | 8, h => exact h
    | 9, h => exact h
    | 10, h => exact h
    | 11, h => exact h
    | 12, h => exact h
    | 13, h => exact h
    | 14, h => exact h
    | 15, h => exact h
    | 16, h => exact h
    | 17, h => exact h
    | 18, h => exact IsV.below h hB
    | 19, h => exact h
    | 20, h => exact h
    | n + 21, h => trivial
  · intro i o ho
    match i, ho with
    | 0, ho =>
      obtain rfl := Option.some.inj ho
      clear ho
      intro vals w1 a hg hF ha
      have e0 : a.eval (.tmp 0) = .string s := (ha (.tmp 0) (by simp [Op.operands, Call.operands])).trans rfl
      refine (if_pos rfl).mpr (.inl ?_)
      refine wp_value (v := .string s) ?_ ⟨_, rfl, rfl, Below.refl _ _⟩
      have hc : ∀ v, a.eval (.const v) = v := fun _ => rfl
      have hfn : ∀ f, a.eval (.func f) = .func (.func f) #[] #[] := fun _ => rfl
      clear ha hF
      generalize a.eval = ρ at *
      simp [execOp, go_sem, e0, hp, hc, hfn]
    | 1, ho =>
      obtain rfl := Option.some.inj ho
      clear ho
      intro vals w1 a hg hF ha
      have f0 : vals 0 = .string s := hF 0 (mem_ancs (by kernel_rfl))
      have e0 : a.eval (.tmp 60) = .string s := ((ha (.tmp 60) (by simp [Op.operands, Call.operands])).trans rfl).trans f0
      refine (if_pos rfl).mpr (.inl ?_)
      refine wp_value (v := .int .u8 (s[0]'hp).toNat) ?_ ⟨_, rfl, rfl, Below.refl _ _⟩
      have hc : ∀ v, a.eval (.const v) = v := fun _ => rfl
      have hfn : ∀ f, a.eval (.func f) = .func (.func f) #[] #[] := fun _ => rfl
      clear ha hF
      generalize a.eval = ρ at *
      simp [execOp, go_sem, e0, hp, hc, hfn]
    | 2, ho =>
      obtain rfl := Option.some.inj ho
      clear ho
      intro vals w1 a hg hF ha
      have e0 : a.eval (.tmp 0) = .string s := (ha (.tmp 0) (by simp [Op.operands, Call.operands])).trans rfl
      refine (if_pos rfl).mpr (.inl ?_)
      refine wp_value (v := .string s) ?_ ⟨_, rfl, rfl, Below.refl _ _⟩
      have hc : ∀ v, a.eval (.const v) = v := fun _ => rfl
      have hfn : ∀ f, a.eval (.func f) = .func (.func f) #[] #[] := fun _ => rfl
      clear ha hF
      generalize a.eval = ρ at *
      simp [execOp, go_sem, e0, hp, hc, hfn]
    | 3, ho =>
      obtain rfl := Option.some.inj ho
      clear ho
      intro vals w1 a hg hF ha
      have f0 : vals 2 = .string s := hF 2 (mem_ancs (by kernel_rfl))
      have e0 : a.eval (.tmp 62) = .string s := ((ha (.tmp 62) (by simp [Op.operands, Call.operands])).trans rfl).trans f0
      refine (if_pos rfl).mpr (.inl ?_)
      refine wp_value (v := .int .u8 (s[2]'h3).toNat) ?_ ⟨_, rfl, rfl, Below.refl _ _⟩
      have hc : ∀ v, a.eval (.const v) = v := fun _ => rfl
      have hfn : ∀ f, a.eval (.func f) = .func (.func f) #[] #[] := fun _ => rfl
      clear ha hF
      generalize a.eval = ρ at *
      simp [execOp, go_sem, e0, hp, hc, hfn, h3, (show (2 : Int) < s.size by omega)]
    | 4, ho =>
      obtain rfl := Option.some.inj ho
      clear ho
      intro vals w1 a hg hF ha
      have f0 : vals 1 = .int .u8 (s[0]'hp).toNat := hF 1 (mem_ancs (by kernel_rfl))
      have e0 : a.eval (.tmp 61) = .int .u8 (s[0]'hp).toNat := ((ha (.tmp 61) (by simp [Op.operands, Call.operands])).trans rfl).trans f0
      have f1 : vals 3 = .int .u8 (s[2]'h3).toNat := hF 3 (mem_ancs (by kernel_rfl))
      have e1 : a.eval (.tmp 63) = .int .u8 (s[2]'h3).toNat := ((ha (.tmp 63) (by simp [Op.operands, Call.operands])).trans rfl).trans f1
      refine (if_pos rfl).mpr (.inl ?_)
      refine wp_calls (f := 47) (args := #[.int .u8 (s[0]'hp).toNat, .int .u8 (s[2]'h3).toNat]) (w1 := w1) ?_ (span_exact _ _ _) ⟨_, rfl, (span_is _ _ _).less hg, span_below _ _ _⟩
      have hc : ∀ v, a.eval (.const v) = v := fun _ => rfl
      have hfn : ∀ f, a.eval (.func f) = .func (.func f) #[] #[] := fun _ => rfl
      clear ha hF
      generalize a.eval = ρ at *
      simp [execOp, go_sem, e0, e1, hp, hc, hfn]
    | 5, ho =>
      obtain rfl := Option.some.inj ho
      clear ho
      intro vals w1 a hg hF ha
      have e0 : a.eval (.tmp 0) = .string s := (ha (.tmp 0) (by simp [Op.operands, Call.operands])).trans rfl
      refine (if_pos rfl).mpr (.inl ?_)
      refine wp_value (v := .string s) ?_ ⟨_, rfl, rfl, Below.refl _ _⟩
      have hc : ∀ v, a.eval (.const v) = v := fun _ => rfl
      have hfn : ∀ f, a.eval (.func f) = .func (.func f) #[] #[] := fun _ => rfl
      clear ha hF
      generalize a.eval = ρ at *
      simp [execOp, go_sem, e0, hp, hc, hfn]
    | 6, ho =>
      obtain rfl := Option.some.inj ho
      clear ho
      intro vals w1 a hg hF ha
      have f0 : vals 5 = .string s := hF 5 (mem_ancs (by kernel_rfl))
      have e0 : a.eval (.tmp 65) = .string s := ((ha (.tmp 65) (by simp [Op.operands, Call.operands])).trans rfl).trans f0
      refine (if_pos rfl).mpr (.inl ?_)
      refine wp_value (v := .string (s.extract 3 s.size)) ?_ ⟨_, rfl, rfl, Below.refl _ _⟩
      have hc : ∀ v, a.eval (.const v) = v := fun _ => rfl
      have hfn : ∀ f, a.eval (.func f) = .func (.func f) #[] #[] := fun _ => rfl
      clear ha hF
      generalize a.eval = ρ at *
      simp [execOp, go_sem, e0, hp, hc, hfn]
      intro h; omega
    | 7, ho =>
      obtain rfl := Option.some.inj ho
      clear ho
      intro vals w1 a hg hF ha
      have e0 : a.eval (.tmp 0) = .string s := (ha (.tmp 0) (by simp [Op.operands, Call.operands])).trans rfl
      refine (if_pos rfl).mpr (.inl ?_)
      refine wp_value (v := .string s) ?_ ⟨_, rfl, rfl, Below.refl _ _⟩
      have hc : ∀ v, a.eval (.const v) = v := fun _ => rfl
      have hfn : ∀ f, a.eval (.func f) = .func (.func f) #[] #[] := fun _ => rfl
      clear ha hF
      generalize a.eval = ρ at *
      simp [execOp, go_sem, e0, hp, hc, hfn]
    | 8, ho =>
      obtain rfl := Option.some.inj ho
      clear ho
      intro vals w1 a hg hF ha
      have f0 : vals 7 = .string s := hF 7 (mem_ancs (by kernel_rfl))
      have e0 : a.eval (.tmp 67) = .string s := ((ha (.tmp 67) (by simp [Op.operands, Call.operands])).trans rfl).trans f0
      refine (if_pos rfl).mpr (.inl ?_)
      refine wp_value (v := .int .u8 (s[0]'hp).toNat) ?_ ⟨_, rfl, rfl, Below.refl _ _⟩
      have hc : ∀ v, a.eval (.const v) = v := fun _ => rfl
      have hfn : ∀ f, a.eval (.func f) = .func (.func f) #[] #[] := fun _ => rfl
      clear ha hF
      generalize a.eval = ρ at *
      simp [execOp, go_sem, e0, hp, hc, hfn]
    | 9, ho =>
      obtain rfl := Option.some.inj ho
      clear ho
      intro vals w1 a hg hF ha
      have e0 : a.eval (.tmp 0) = .string s := (ha (.tmp 0) (by simp [Op.operands, Call.operands])).trans rfl
      refine (if_pos rfl).mpr (.inl ?_)
      refine wp_value (v := .string s) ?_ ⟨_, rfl, rfl, Below.refl _ _⟩
      have hc : ∀ v, a.eval (.const v) = v := fun _ => rfl
      have hfn : ∀ f, a.eval (.func f) = .func (.func f) #[] #[] := fun _ => rfl
      clear ha hF
      generalize a.eval = ρ at *
      simp [execOp, go_sem, e0, hp, hc, hfn]
    | 10, ho =>
      obtain rfl := Option.some.inj ho
      clear ho
      intro vals w1 a hg hF ha
      have f0 : vals 9 = .string s := hF 9 (mem_ancs (by kernel_rfl))
      have e0 : a.eval (.tmp 69) = .string s := ((ha (.tmp 69) (by simp [Op.operands, Call.operands])).trans rfl).trans f0
      refine (if_pos rfl).mpr (.inl ?_)
      refine wp_value (v := .int .u8 (s[2]'h3).toNat) ?_ ⟨_, rfl, rfl, Below.refl _ _⟩
      have hc : ∀ v, a.eval (.const v) = v := fun _ => rfl
      have hfn : ∀ f, a.eval (.func f) = .func (.func f) #[] #[] := fun _ => rfl
      clear ha hF
      generalize a.eval = ρ at *
      simp [execOp, go_sem, e0, hp, hc, hfn, h3, (show (2 : Int) < s.size by omega)]
    | 11, ho =>
      obtain rfl := Option.some.inj ho
      clear ho
      intro vals w1 a hg hF ha
      have f0 : vals 8 = .int .u8 (s[0]'hp).toNat := hF 8 (mem_ancs (by kernel_rfl))
      have e0 : a.eval (.tmp 68) = .int .u8 (s[0]'hp).toNat := ((ha (.tmp 68) (by simp [Op.operands, Call.operands])).trans rfl).trans f0
      have f1 : vals 10 = .int .u8 (s[2]'h3).toNat := hF 10 (mem_ancs (by kernel_rfl))
      have e1 : a.eval (.tmp 70) = .int .u8 (s[2]'h3).toNat := ((ha (.tmp 70) (by simp [Op.operands, Call.operands])).trans rfl).trans f1
      refine (if_pos rfl).mpr (.inl ?_)
      refine wp_value (v := .bool true) ?_ ⟨_, rfl, rfl, Below.refl _ _⟩
      have hc : ∀ v, a.eval (.const v) = v := fun _ => rfl
      have hfn : ∀ f, a.eval (.func f) = .func (.func f) #[] #[] := fun _ => rfl
      clear ha hF
      generalize a.eval = ρ at *
      simp [execOp, go_sem, e0, e1, hp, hc, hfn, hle]
    | 12, ho =>
      obtain rfl := Option.some.inj ho
      clear ho
      intro vals w1 a hg hF ha
      have f0 : vals 11 = .bool true := hF 11 (mem_ancs (by kernel_rfl))
      have e0 : a.eval (.tmp 71) = .bool true := ((ha (.tmp 71) (by simp [Op.operands, Call.operands])).trans rfl).trans f0
      refine (if_pos rfl).mpr (.inl ?_)
      refine wp_value (v := .bool true) ?_ ⟨_, rfl, rfl, Below.refl _ _⟩
      have hc : ∀ v, a.eval (.const v) = v := fun _ => rfl
      have hfn : ∀ f, a.eval (.func f) = .func (.func f) #[] #[] := fun _ => rfl
      clear ha hF
      generalize a.eval = ρ at *
      simp [execOp, go_sem, e0, hp, hc, hfn]
    | 13, ho =>
      obtain rfl := Option.some.inj ho
      clear ho
      intro vals w1 a hg hF ha
      have e0 : a.eval (.tmp 0) = .string s := (ha (.tmp 0) (by simp [Op.operands, Call.operands])).trans rfl
      have g0 : vals 12 = .bool true := hF 12 (mem_ancs (by kernel_rfl))
      refine (if_pos (by simp [wantedV, g0])).mpr (.inl ?_)
      refine wp_value (v := .string s) ?_ ⟨_, rfl, rfl, Below.refl _ _⟩
      have hc : ∀ v, a.eval (.const v) = v := fun _ => rfl
      have hfn : ∀ f, a.eval (.func f) = .func (.func f) #[] #[] := fun _ => rfl
      clear ha hF
      generalize a.eval = ρ at *
      simp [execOp, go_sem, e0, hp, hc, hfn]
    | 14, ho =>
      obtain rfl := Option.some.inj ho
      clear ho
      intro vals w1 a hg hF ha
      have f0 : vals 13 = .string s := hF 13 (mem_ancs (by kernel_rfl))
      have e0 : a.eval (.tmp 73) = .string s := ((ha (.tmp 73) (by simp [Op.operands, Call.operands])).trans rfl).trans f0
      have g0 : vals 12 = .bool true := hF 12 (mem_ancs (by kernel_rfl))
      refine (if_pos (by simp [wantedV, g0])).mpr (.inl ?_)
      refine wp_value (v := .string (s.extract 2 s.size)) ?_ ⟨_, rfl, rfl, Below.refl _ _⟩
      have hc : ∀ v, a.eval (.const v) = v := fun _ => rfl
      have hfn : ∀ f, a.eval (.func f) = .func (.func f) #[] #[] := fun _ => rfl
      clear ha hF
      generalize a.eval = ρ at *
      simp [execOp, go_sem, e0, hp, hc, hfn]
      intro h; omega
    | 15, ho =>
      obtain rfl := Option.some.inj ho
      clear ho
      intro vals w1 a hg hF ha
      have f0 : vals 14 = .string (s.extract 2 s.size) := hF 14 (mem_ancs (by kernel_rfl))
      have e0 : a.eval (.tmp 74) = .string (s.extract 2 s.size) := ((ha (.tmp 74) (by simp [Op.operands, Call.operands])).trans rfl).trans f0
      have g0 : vals 12 = .bool true := hF 12 (mem_ancs (by kernel_rfl))
      refine (if_pos (by simp [wantedV, g0])).mpr (.inl ?_)
      refine wp_calls (f := 44) (args := #[.string (s.extract 2 s.size)]) (w1 := w1) ?_ (by have := kind_any w1 (s.extract 2 s.size); rwa [bytes_extract s 2] at this) ⟨_, rfl, rfl, Below.refl _ _⟩
      have hc : ∀ v, a.eval (.const v) = v := fun _ => rfl
      have hfn : ∀ f, a.eval (.func f) = .func (.func f) #[] #[] := fun _ => rfl
      clear ha hF
      generalize a.eval = ρ at *
      simp [execOp, go_sem, e0, hp, hc, hfn]
    | 16, ho =>
      obtain rfl := Option.some.inj ho
      clear ho
      intro vals w1 a hg hF ha
      have f0 : vals 15 = .int .u8 (clsKind (s.data.toList.drop 2)).toNat := hF 15 (mem_ancs (by kernel_rfl))
      have e0 : a.eval (.tmp 75) = .int .u8 (clsKind (s.data.toList.drop 2)).toNat := ((ha (.tmp 75) (by simp [Op.operands, Call.operands])).trans rfl).trans f0
      have g0 : vals 12 = .bool true := hF 12 (mem_ancs (by kernel_rfl))
      refine (if_pos (by simp [wantedV, g0])).mpr (.inl ?_)
      refine wp_value (v := .bool (((clsKind (s.data.toList.drop 2)).toNat : Int) == 0)) ?_ ⟨_, rfl, rfl, Below.refl _ _⟩
      have hc : ∀ v, a.eval (.const v) = v := fun _ => rfl
      have hfn : ∀ f, a.eval (.func f) = .func (.func f) #[] #[] := fun _ => rfl
      clear ha hF
      generalize a.eval = ρ at *
      simp [execOp, go_sem, e0, hp, hc, hfn]
    | 17, ho =>
      obtain rfl := Option.some.inj ho
      clear ho
      intro vals w1 a hg hF ha
      have f0 : vals 12 = .bool true := hF 12 (mem_ancs (by kernel_rfl))
      have e0 : a.eval (.tmp 72) = .bool true := ((ha (.tmp 72) (by simp [Op.operands, Call.operands])).trans rfl).trans f0
      have f1 : vals 16 = .bool (((clsKind (s.data.toList.drop 2)).toNat : Int) == 0) := hF 16 (mem_ancs (by kernel_rfl))
      have e1 : a.eval (.tmp 76) = .bool (((clsKind (s.data.toList.drop 2)).toNat : Int) == 0) := ((ha (.tmp 76) (by simp [Op.operands, Call.operands])).trans rfl).trans f1
      refine (if_pos rfl).mpr (.inl ?_)
      refine wp_value (v := .bool (((clsKind (s.data.toList.drop 2)).toNat : Int) == 0)) ?_ ⟨_, rfl, rfl, Below.refl _ _⟩
      have hc : ∀ v, a.eval (.const v) = v := fun _ => rfl
      have hfn : ∀ f, a.eval (.func f) = .func (.func f) #[] #[] := fun _ => rfl
      clear ha hF
      generalize a.eval = ρ at *
      simp [execOp, go_sem, e0, e1, hp, hc, hfn]
    | 18, ho =>
      obtain rfl := Option.some.inj ho
      clear ho
      intro vals w1 a hg hF ha
      have f0 := hF 4 (mem_ancs (by kernel_rfl))
      have e0 : a.eval (.tmp 64) = vals 4 := (ha (.tmp 64) (by simp [Op.operands])).trans rfl
      refine (if_pos rfl).mpr (.inl ?_)
      refine wp_value (v := vals 4) ?_ ⟨_, rfl, f0, Below.refl _ _⟩
      clear ha hF f0
      generalize a.eval = ρ at *
      simp [execOp, go_sem, e0]
    | 19, ho =>
      obtain rfl := Option.some.inj ho
      clear ho
      intro vals w1 a hg hF ha
      have f0 : vals 6 = .string (s.extract 3 s.size) := hF 6 (mem_ancs (by kernel_rfl))
      have e0 : a.eval (.tmp 66) = .string (s.extract 3 s.size) := ((ha (.tmp 66) (by simp [Op.operands, Call.operands])).trans rfl).trans f0
      refine (if_pos rfl).mpr (.inl ?_)
      refine wp_value (v := .string (s.extract 3 s.size)) ?_ ⟨_, rfl, rfl, Below.refl _ _⟩
      have hc : ∀ v, a.eval (.const v) = v := fun _ => rfl
      have hfn : ∀ f, a.eval (.func f) = .func (.func f) #[] #[] := fun _ => rfl
      clear ha hF
      generalize a.eval = ρ at *
      simp [execOp, go_sem, e0, hp, hc, hfn]
    | 20, ho =>
      obtain rfl := Option.some.inj ho
      clear ho
      intro vals w1 a hg hF ha
      have f0 : vals 17 = .bool (((clsKind (s.data.toList.drop 2)).toNat : Int) == 0) := hF 17 (mem_ancs (by kernel_rfl))
      have e0 : a.eval (.tmp 77) = .bool (((clsKind (s.data.toList.drop 2)).toNat : Int) == 0) := ((ha (.tmp 77) (by simp [Op.operands, Call.operands])).trans rfl).trans f0
      refine (if_pos rfl).mpr (.inl ?_)
      refine wp_value (v := .bool (((clsKind (s.data.toList.drop 2)).toNat : Int) == 0)) ?_ ⟨_, rfl, rfl, Below.refl _ _⟩
      have hc : ∀ v, a.eval (.const v) = v := fun _ => rfl
      have hfn : ∀ f, a.eval (.func f) = .func (.func f) #[] #[] := fun _ => rfl
      clear ha hF
      generalize a.eval = ρ at *
      simp [execOp, go_sem, e0, hp, hc, hfn]
    | n + 21, ho => simp at ho
  · intro vals w2 hB hG hV
    have v7 := hV 18 (by decide)
    have v8 := hV 19 (by decide)
    have v9 := hV 20 (by decide)
    simp only at v7 v8 v9
    by_cases hz : clsKind (List.drop 2 s.data.toList) = 0
    · have v10 : vals 20 = .bool true := v9.trans (by rw [hz]; rfl)
      clear v9
      simp only [putList, Act.put]
      go_wp2_with fail
      go_ret3
      simp [hz]
      all_goals (try rw [v8])
      all_goals (try rw [v10])
      exact ⟨⟨vals 18, s.extract 3 s.size, rfl, bytes_extract s 3, v7⟩, hB⟩
    · have v10 : vals 20 = .bool false := v9.trans (by rw [beq_eq_false_iff_ne.2 fun h0 => hz (UInt8.toNat_inj.1 (by simpa using h0))])
      clear v9
      simp only [putList, Act.put]
      go_wp2_with fail
      go_ret3
      simp [hz]
      all_goals (try rw [v8])
      all_goals (try rw [v10])
      exact ⟨⟨_, _, rfl⟩, hB⟩

end Go.Proofs.YtkbfckigndkkkaaDoor

/-
  Walk: the part at the beginning of an expression in brackets, whatever stands there.
-/
namespace Go.Proofs.YtkbfckigndkkkaaDoor
open Go Go.RowKit

theorem three_bytes {s : ByteArray} (h : 2 < s.size) : ∃ t, s.data.toList = s[0]'(by omega) :: s[1]'(by omega) :: s[2]'h :: t := by
  obtain ⟨t, ht⟩ := two_bytes (s := s) (by omega)
  rcases t with _ | ⟨c, t⟩
  · rw [bytes_len, ht] at h; simp at h
  · refine ⟨t, ?_⟩
    have h2 : s.data.toList[2]? = some c := by rw [ht]; rfl
    rw [Array.getElem?_toList, Array.getElem?_eq_getElem (by exact h)] at h2
    have : s[2]'h = c := Option.some.inj h2
    rw [this]; exact ht
theorem clsKind_vals (s : List UInt8) : clsKind s = 0 ∨ clsKind s = 58 ∨ clsKind s = 46 ∨ clsKind s = 61 := by
  match s with
  | [] => exact .inl rfl
  | [_] => exact .inl rfl
  | a :: b :: t =>
    show (if a = 91 ∧ (b = 58 ∨ b = 46 ∨ b = 61) then b else 0) = 0 ∨ _
    by_cases hc : a = 91 ∧ (b = 58 ∨ b = 46 ∨ b = 61)
    · right
      show (if a = 91 ∧ (b = 58 ∨ b = 46 ∨ b = 61) then b else 0) = 58 ∨ (if a = 91 ∧ (b = 58 ∨ b = 46 ∨ b = 61) then b else 0) = 46 ∨ (if a = 91 ∧ (b = 58 ∨ b = 46 ∨ b = 61) then b else 0) = 61
      rw [if_pos hc]; exact hc.2
    · left; rw [if_neg hc]
/-- What is read where no class stands ahead. -/
def zeroL (a : UInt8) : List UInt8 → Option ((UInt8 → Bool) × List UInt8)
  | b :: c :: t' => if b = 45 ∧ c ≠ 93 then (if a.toNat ≤ c.toNat ∧ clsKind (c :: t') = 0 then some (between a.toNat c.toNat, t') else none) else some (between a.toNat a.toNat, b :: c :: t')
  | t => some (between a.toNat a.toNat, t)
theorem part_zero {a : UInt8} {t : List UInt8} (hk : clsKind (a :: t) = 0) : clsPart (a :: t) = zeroL a t := by
  unfold clsPart
  dsimp only
  rw [if_neg (by rw [hk]; decide), if_neg (by rw [hk]; simp)]
  rcases t with _ | ⟨b, _ | ⟨c, t⟩⟩ <;> rfl
theorem part_one {a : UInt8} {t : List UInt8} (hk : clsKind (a :: t) = 0) (ht : t.length ≤ 1) : clsPart (a :: t) = some (between a.toNat a.toNat, t) := by
  rw [part_zero hk]
  rcases t with _ | ⟨b, _ | ⟨c, t⟩⟩
  · rfl
  · rfl
  · simp at ht
theorem u8_eq {a b : UInt8} (h : (a.toNat : Int) = (b.toNat : Int)) : a = b := UInt8.toNat_inj.1 (by omega)
theorem cpart_any (hnam : NamedSaid) (w : World) (s : ByteArray) (hE : Env w) (h4 : 4 ≤ w.heap.size) (hl : s.size ≤ 1000) :
    Calls Tryd.prog 38 #[.string s] w (PartOut w (clsPart s.data.toList)) := by
  rcases clsKind_vals s.data.toList with hk | hk | hk
  · by_cases hp : 0 < s.size
    · by_cases h3 : 2 < s.size
      · have h1 : 1 < s.size := by omega
        obtain ⟨t, ht⟩ := three_bytes h3
        have hz : clsPart (s.data.toList) = zeroL (s[0]'hp) (s[1]'h1 :: s[2]'h3 :: t) := by
          rw [ht]; exact part_zero (by rw [← ht]; exact hk)
        unfold zeroL at hz
        dsimp only at hz
        by_cases hd : ((s[1]'h1).toNat : Int) = 45
        · have hd' : s[1]'h1 = 45 := u8_eq (b := 45) hd
          by_cases h93 : ((s[2]'h3).toNat : Int) = 93
          · have h93' : s[2]'h3 = 93 := u8_eq (b := 93) h93
            rw [if_neg (by rintro ⟨_, hx⟩; exact hx h93')] at hz
            have := cpart_one4 w s hk hp h3 h1 hd (by rw [h93]; rfl)
            have h2 : s.data.toList.drop 1 = s[1]'h1 :: s[2]'h3 :: t := by rw [ht]; rfl
            rw [h2] at this
            rw [hz]; exact this
          · have h93' : s[2]'h3 ≠ 93 := fun hx => h93 (by rw [hx]; rfl)
            have hb : (((s[2]'h3).toNat : Int) != 93) = true := by rw [bne_iff_ne]; exact h93
            rw [if_pos ⟨hd', h93'⟩] at hz
            have h2 : s.data.toList.drop 2 = s[2]'h3 :: t := by rw [ht]; rfl
            have h4 : s.data.toList.drop 3 = t := by rw [ht]; rfl
            by_cases hle : (s[0]'hp).toNat ≤ (s[2]'h3).toNat
            · have := cpart_range w s hk hp h3 h1 hd hb (decide_eq_true hle)
              rw [h2, h4] at this
              rw [hz]
              by_cases hk2 : clsKind (s[2]'h3 :: t) = 0
              · rw [if_pos hk2] at this
                rw [if_pos ⟨hle, hk2⟩]; exact this
              · rw [if_neg hk2] at this
                rw [if_neg (fun hx => hk2 hx.2)]; exact this
            · have := cpart_norange w s hk hp h3 h1 hd hb (decide_eq_false hle)
              rw [hz, if_neg (fun hx => hle hx.1)]; exact this
        · have hd' : s[1]'h1 ≠ 45 := fun hx => hd (by rw [hx]; rfl)
          rw [if_neg (fun hx => hd' hx.1)] at hz
          have := cpart_one3 w s hk hp h3 h1 (by rw [beq_eq_false_iff_ne]; exact hd) hd
          have h2 : s.data.toList.drop 1 = s[1]'h1 :: s[2]'h3 :: t := by rw [ht]; rfl
          rw [h2] at this
          rw [hz]; exact this
      · have := cpart_one2 w s hk hp (by omega)
        rcases hs : s.data.toList with _ | ⟨a, t⟩
        · rw [bytes_len, hs] at hp; cases hp
        · have ha := first_byte hs hp
          have hz := part_one (a := a) (t := t) (by rw [← hs]; exact hk) (by have h5 := bytes_len s; rw [hs] at h5; simp at h5; omega)
          rw [ha] at this
          rw [hs] at this
          rw [hz]; exact this
    · have hs : s.data.toList = [] := by
        have := bytes_len s
        rcases h : s.data.toList with _ | ⟨a, t⟩
        · rfl
        · rw [h] at this; simp at this; omega
      exact cpart_nil w s hs
  · exact cpart_colon hnam w s hE h4 hl hk
  · exact cpart_dot w s hk
end Go.Proofs.YtkbfckigndkkkaaDoor
