/-
  Walks: all bytes of a class added.
-/
import Derived.Test.YtkbfckigndkkkaaDoorCls2
import Derived.Test.YtkbfckigndkkkaaDoorReg
namespace Go.Proofs.YtkbfckigndkkkaaDoor
set_option linter.unusedSimpArgs false
set_option linter.unusedVariables false
open Go Go.RowKit

/-- The first i bytes of f's set added to g's. -/
def addF (g f : UInt8 → Bool) (i : Nat) : UInt8 → Bool := fun c => if c.toNat < i then g c || f c else g c
set_option maxRecDepth 100000 in set_option maxHeartbeats 4000000 in
theorem add_any (N : Nat) (w : World) (b : Nat) (g f : UInt8 → Bool) (v : Value) (hb : w.heap[b]? = some (.cells (setA g) 39 (0, 0))) (hN : b < N) (hv : IsV N w v f) :
    Calls Tryd.prog 39 #[.pointer (some ⟨b, 0, none⟩), v] w fun e w' => e = .returned (.tuple #[]) ∧ w'.heap[b]? = some (.cells (setA fun c => g c || f c) 39 (0, 0)) ∧ Upd (atB b) w w' := by
  obtain ⟨k, cap, rfl, hcf, hcall⟩ := hv
  go_enter Tryd.func39, Tryd.ntmps39
  go_wp2_with fail
  go_loopw [5] (fun v wr => ∃ i : Nat, i ≤ 256 ∧ v = .int .i64 i ∧ wr.heap[b]? = some (.cells (setA (addF g f i)) 39 (0, 0)) ∧ Upd (atB b) w wr) (fun v _ => match v with | .int _ i => 256 - i.toNat | _ => 0)
  case atStart => exact ⟨0, by omega, rfl, by rw [hb]; congr 3, Upd.refl _ _⟩
  case round =>
    obtain ⟨i, hi, rfl, hbr, hU⟩ := hrel
    rcases Nat.lt_or_ge i 256 with hlt | hge
    · have hcell : wr.cell? ⟨b, i, none⟩ = some (.bool (addF g f i (UInt8.ofNat i))) := by
        rw [cell_of_heap hbr]; simp [setA, setL_get _ i hlt]
      have hfr := free_of_heap hbr i
      have hbl := lt_of_heap hbr
      have hkeep : ∀ j, N ≤ j → CellB w j → wr.heap[j]? = w.heap[j]? := fun j h1 h2 => hU.block j h2.lt (by simp only [atB]; omega)
      have hwr : IntKind.u8.wrap (i : Int) = (i : Int) := by
        have hsg : IntKind.u8.signed = false := rfl
        simp [IntKind.wrap, IntKind.bits, hsg]; omega
      have hto : (UInt8.ofNat i).toNat = i := by simp; omega
      have hcall2 : ∀ w' : World, (∀ j, N ≤ j → CellB w j → w'.heap[j]? = w.heap[j]?) → Calls Tryd.prog k (#[.int .u8 (i : Int)] ++ cap) w' fun e w'' => e = .returned (.bool (f (UInt8.ofNat i))) ∧ w'' = w' := by
        intro w' h; have := hcall w' h (UInt8.ofNat i); rwa [hto] at this
      have hstep : ∀ (wz : World) (x : Bool), wz.heap[b]? = wr.heap[b]? → x = (addF g f i (UInt8.ofNat i) || f (UInt8.ofNat i)) → (wz.setCell ⟨b, i, none⟩ (.bool x)).heap[b]? = some (.cells (setA (addF g f (i + 1))) 39 (0, 0)) := by
        intro wz x hz hx
        rw [heap_setCell_at (hz.trans hbr) i (.bool x)]
        congr 2
        apply Array.ext_getElem?
        intro j
        rw [Array.getElem?_setIfInBounds]
        have e : ∀ h : UInt8 → Bool, (setA h)[j]? = (setL h)[j]? := fun h => by simp [setA]
        by_cases hj : i = j
        · subst hj
          rw [if_pos rfl, if_pos (by simp; exact hlt), e, setL_get _ i hlt, hx]
          simp only [addF, hto, if_neg (Nat.lt_irrefl i), if_pos (Nat.lt_succ_self i)]
        · rw [if_neg hj, e, e]
          rcases Nat.lt_or_ge j 256 with h | h
          · rw [setL_get _ j h, setL_get _ j h]
            have hjt : (UInt8.ofNat j).toNat = j := by simp; omega
            congr 2
            simp only [addF, hjt]
            by_cases h1 : j < i
            · rw [if_pos h1, if_pos (by omega)]
            · rw [if_neg h1, if_neg (by omega)]
          · rw [List.getElem?_eq_none (by rw [setL_length]; exact h), List.getElem?_eq_none (by rw [setL_length]; exact h)]
      cases hg : addF g f i (UInt8.ofNat i) with
      | true =>
        rw [hg] at hcell hstep
        go_wp2_with fail
        go_region
        go_wp2_with fail
        go_roundw
        case rel => exact ⟨i + 1, hlt, by simp, hstep _ _ rfl rfl, (hU.setCell ⟨b, i, none⟩ _ fun _ => rfl).drew⟩
        case measure => simp only [Int.toNat_natCast]; omega
      | false =>
        rw [hg] at hcell hstep
        go_wp2_with fail
        go_region_with (refine (hcall2 (World.drew _) hkeep).mono ?_; rintro e w2 ⟨rfl, rfl⟩)
        go_wp2_with fail
        go_roundw
        case rel => exact ⟨i + 1, hlt, by simp, hstep _ _ rfl (by simp), (hU.setCell ⟨b, i, none⟩ _ fun _ => rfl).drew⟩
        case measure => simp only [Int.toNat_natCast]; omega
    · have hi2 : i = 256 := by omega
      subst hi2
      go_wp2_with fail
      go_end0
      refine ⟨rfl, ?_, hU⟩
      rw [hbr]
      congr 3
      funext c
      have : c.toNat < 256 := c.toNat_lt
      simp [addF, this]
end Go.Proofs.YtkbfckigndkkkaaDoor
