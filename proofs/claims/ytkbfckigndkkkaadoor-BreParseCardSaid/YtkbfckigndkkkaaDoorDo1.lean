/-
  Walk: the chapter's examples come out.
-/
import Derived.Test.YtkbfckigndkkkaaDoorTw1
namespace Go.Proofs.YtkbfckigndkkkaaDoor
set_option linter.unusedSimpArgs false
set_option linter.unusedVariables false
open Go Go.RowKit

def exFo : Fo := .cons ⟨1, 97, noS, 0, 0, 0⟩ .nil (.cons ⟨8, 0, noS, 0, 0, -1⟩ (Fo.one ⟨2, 0, noS, 0, 0, 0⟩ .nil) (.cons ⟨5, 0, noS, 0, 0, 0⟩ .nil .nil))
theorem ex1 : breS [97, 46, 42, 36] = some (exFo, ⟨[], 0, 4, false, []⟩) := by rfl
theorem ex2 : ∃ fo st, breS [92, 40, 97, 98, 92, 41, 42, 92, 49] = some (fo, st) ∧ st.g = 1 ∧ st.r = true := by
  refine ⟨_, _, rfl, rfl, rfl⟩
theorem ex3 : breS [92, 40, 97, 92, 49, 92, 41] = none := by rfl
theorem top_cell {w : World} {base : Nat} {g c : Nat} {hs : List Hd} {ks : List Value} (h : w.ownsRow base 41 262 (.slice (some ⟨g, 0, none⟩) hs.length c) hs.length (ndsL hs ks)) (hl : ks.length = hs.length) {i j : Nat} {h0 : Hd} {x : Value}
    (hi : hs[i]? = some h0) (hj : j < 262) (hx : ∀ kv, (ndH h0 kv)[j]? = some x) : w.cell? ⟨g, i * 262 + j, none⟩ = some x := by
  have hlt : i < hs.length := by
    rcases Nat.lt_or_ge i hs.length with h | h
    · exact h
    · rw [List.getElem?_eq_none h] at hi; cases hi
  obtain ⟨kv, hkv⟩ : ∃ kv, ks[i]? = some kv := ⟨_, List.getElem?_eq_getElem (by omega)⟩
  have h1 := ndsL_get hs ks i j h0 kv hl hi hkv hj
  have h2 : (ndHL h0 kv)[j]? = some x := by rw [← ndH_toList, Array.getElem?_toList]; exact hx kv
  rw [h2] at h1
  have := h.cells (g := g) rfl _ _ h1
  rw [addr_add, Nat.zero_add] at this
  exact this
set_option maxRecDepth 100000 in set_option maxHeartbeats 4000000 in
theorem does_said (hcls : ClsSaid) (w : World) (hE : Env w) (h4 : 4 ≤ w.heap.size) : Calls Tryd.prog 10 #[] w fun e w' => e = .returned (.bool true) ∧ Below w.heap.size w w' := by
  have hp1 := parse_any hcls w ⟨#[97, 46, 42, 36]⟩ hE h4 (by decide)
  rw [show breS (⟨#[97, 46, 42, 36]⟩ : ByteArray).data.toList = _ from ex1] at hp1
  have HP1 := Lib.hid hp1
  clear hp1
  go_enter Tryd.func10, Tryd.ntmps10
  go_upto_region 2 with (go_at_call 4; refine HP1.out.mono ?_; rintro e w1 ⟨b1, s1, v1, ov1, rfl, hb1, hq1, hR1, hB1⟩)
  have hP1 : PB w1 b1 v1 0 4 false := ⟨s1, ov1, hq1⟩
  have hz : exFo.size ≤ 1000 := by decide
  have ht := tree_said w1 b1 v1 0 4 false exFo _ hP1 hR1 hz
  have HT := Lib.hid ht
  clear ht
  go_upto_region 3 with (go_at_call 6; refine HT.out.mono ?_; rintro e w2 ⟨v2, ks, rfl, hown, hkl, hkid, hB2⟩; obtain ⟨a2, c2, rfl⟩ := own_slice hown)
  have hBB2 := hB1.trans (hB2.mono hB1.size)
  have hE2 := hE.below hBB2 h4
  obtain ⟨fo2, st2, hx2, hg2, hr2⟩ := ex2
  have hp2 := parse_any hcls w2 ⟨#[92, 40, 97, 98, 92, 41, 42, 92, 49]⟩ hE2 (by have := hBB2.size; omega) (by decide)
  rw [show breS (⟨#[92, 40, 97, 98, 92, 41, 42, 92, 49]⟩ : ByteArray).data.toList = _ from hx2] at hp2
  have HP2 := Lib.hid hp2
  clear hp2
  go_upto_region 4 with (go_at_call 4; refine HP2.out.mono ?_; rintro e w3 ⟨b3, s3, v3, ov3, rfl, hb3, hq3, hR3, hB3⟩)
  have hBB3 := hBB2.trans (hB3.mono hBB2.size)
  have hE3 := hE.below hBB3 h4
  have hP3 : PB w3 b3 v3 1 st2.m true := ⟨s3, ov3, by rw [hg2, hr2] at hq3; exact hq3⟩
  have hp3 := parse_any hcls w3 ⟨#[92, 40, 97, 92, 49, 92, 41]⟩ hE3 (by have := hBB3.size; omega) (by decide)
  rw [show breS (⟨#[92, 40, 97, 92, 49, 92, 41]⟩ : ByteArray).data.toList = _ from ex3] at hp3
  have HP3 := Lib.hid hp3
  clear hp3
  obtain ⟨g, rfl⟩ : ∃ g, a2 = some ⟨g, 0, none⟩ := by
    rcases hown.2 with ⟨_, h2⟩ | ⟨g, cap, cur, hv, _⟩
    · cases h2
    · cases hv; exact ⟨g, rfl⟩
  have hk0 : ∀ w', Below w2.heap.size w2 w' → w'.cell? ⟨g, 0, none⟩ = some (.int .i64 1) := fun w' hb => top_cell (i := 0) (j := 0) (h0 := ⟨1, 97, noS, 0, 0, 0⟩) (own_keepB hown hb) hkl rfl (by decide) fun kv => ndA_get0 _ _ _ _ _ _ _
  have hk1 : ∀ w', Below w2.heap.size w2 w' → w'.cell? ⟨g, 1, none⟩ = some (.int .u8 97) := fun w' hb => top_cell (i := 0) (j := 1) (h0 := ⟨1, 97, noS, 0, 0, 0⟩) (own_keepB hown hb) hkl rfl (by decide) fun kv => ndA_get1 _ _ _ _ _ _ _
  have hk2 : ∀ w', Below w2.heap.size w2 w' → w'.cell? ⟨g, 262, none⟩ = some (.int .i64 8) := fun w' hb => top_cell (i := 1) (j := 0) (h0 := ⟨8, 0, noS, 0, 0, -1⟩) (own_keepB hown hb) hkl rfl (by decide) fun kv => ndA_get0 _ _ _ _ _ _ _
  have hk3 : ∀ w', Below w2.heap.size w2 w' → w'.cell? ⟨g, 522, none⟩ = some (.int .i64 (-1)) := fun w' hb => top_cell (i := 1) (j := 260) (h0 := ⟨8, 0, noS, 0, 0, -1⟩) (own_keepB hown hb) hkl rfl (by decide) fun kv => ndA_get260 _ _ _ _ _ _ _
  have hk4 : ∀ w', Below w2.heap.size w2 w' → w'.cell? ⟨g, 524, none⟩ = some (.int .i64 5) := fun w' hb => top_cell (i := 2) (j := 0) (h0 := ⟨5, 0, noS, 0, 0, 0⟩) (own_keepB hown hb) hkl rfl (by decide) fun kv => ndA_get0 _ _ _ _ _ _ _
  have HK0 := Lib.hid hk0
  have HK1 := Lib.hid hk1
  have HK2 := Lib.hid hk2
  have HK3 := Lib.hid hk3
  have HK4 := Lib.hid hk4
  have hgl : g < w2.heap.size := (hown.lt g rfl).2
  have hlen : exFo.tops.length = 3 := rfl
  rw [hlen]
  clear hk0 hk1 hk2 hk3 hk4 hown hkid hR1 hR3 hq1 hq3 hlen
  go_wp2_with (first
    | (go_at_call 4; refine HP3.out.mono ?_; rintro e w4 ⟨rfl, hB4⟩
       have hB24 := hB3.trans (hB4.mono hB3.size)
       have hk0 := HK0.out w4 hB24
       have hk1 := HK1.out w4 hB24
       have hk2 := HK2.out w4 hB24
       have hk3 := HK3.out w4 hB24
       have hk4 := HK4.out w4 hB24
       have hgl4 : g < w4.heap.size := Nat.lt_of_lt_of_le hgl hB24.size
       have hP1c := (hP1.below hB2).below hB24
       have hP3c := hP3.below hB4)
    | (go_at_call 9; ((with_reducible refine (parts_said _ _ _ _ _ _ hP1c).mono ?_); rintro e w5 ⟨rfl, rfl⟩))
    | (go_at_call 7; ((with_reducible refine (groups_said _ _ _ _ _ _ hP3c).mono ?_); rintro e w5 ⟨rfl, rfl⟩))
    | (go_at_call 8; ((with_reducible refine (refs_said _ _ _ _ _ _ hP3c).mono ?_); rintro e w5 ⟨rfl, rfl⟩))
    | (go_at_call 8; ((with_reducible refine (refs_said _ _ _ _ _ _ hP1c).mono ?_); rintro e w5 ⟨rfl, rfl⟩)))
  go_ret
  exact ⟨rfl, hBB3.trans (hB4.mono hBB3.size)⟩
end Go.Proofs.YtkbfckigndkkkaaDoor
