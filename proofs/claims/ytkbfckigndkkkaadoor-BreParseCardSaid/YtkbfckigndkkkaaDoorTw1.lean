/-
  Walks: slices.Clone of a row of nodes; the small readers of a pattern.
-/
import Derived.Test.YtkbfckigndkkkaaDoorBw8
import Derived.Test.YtkbfckigndkkkaaDoorBs
import Derived.Lib.BufferMore
namespace Go.Proofs.YtkbfckigndkkkaaDoor
set_option linter.unusedSimpArgs false
set_option linter.unusedVariables false
open Go Go.RowKit

/-- No cell of the block is frozen. -/
def FreeB (w : World) (j : Nat) : Prop := ∀ i, w.frozen? ⟨j, i, none⟩ = false
theorem RepK.one {D : Nat → Prop} {e : TypeId} {w : World} : ∀ (fo : Fo) (kvs : List Value), RepK D e w fo kvs → ∀ kv ∈ kvs, kv.oneCell' = true := by
  intro fo
  induction fo with
  | nil => intro kvs h kv hk; rw [show kvs = [] from h] at hk; cases hk
  | cons hd kids rest _ ih =>
    intro kvs h kv hk
    obtain ⟨kv', kvs', kk, rfl, h1, h2, h3⟩ := h
    rcases List.mem_cons.1 hk with rfl | hk
    · exact Rep.one (D := D) (e := e) (w := w) (fo := kids) ⟨kk, h1, h2⟩
    · exact ih _ h3 _ hk
theorem ndsL_one : ∀ (hs : List Hd) (kvs : List Value), (∀ kv ∈ kvs, kv.oneCell' = true) → ∀ u ∈ ndsL hs kvs, u.oneCell' = true
  | [], _, _, u, hu => by simp [ndsL] at hu
  | _ :: _, [], _, u, hu => by simp [ndsL] at hu
  | h :: hs, kv :: kvs, hk, u, hu => by
    simp only [ndsL, List.mem_append] at hu
    rcases hu with hu | hu
    · exact nds_one (hk kv (by simp)) u hu
    · exact ndsL_one hs kvs (fun x hx => hk x (by simp [hx])) u hu
theorem addr_add (b o j : Nat) : (⟨b, o, none⟩ : Addr).add j = ⟨b, o + j, none⟩ := by unfold Addr.add; split <;> simp_all
/-- The cells of a row. -/
theorem RowAt.cells {D : Nat → Prop} {e : TypeId} {w : World} {hs : List Hd} {kvs : List Value} {b o : Nat} {cs : Array Value} {fr : Nat × Nat} (hb : w.heap[b]? = some (.cells cs e fr)) (ht : (cs.toList.drop o).take (hs.length * 262) = ndsL hs kvs) :
    ∀ (j : Nat) (u : Value), (ndsL hs kvs)[j]? = some u → w.cell? ((⟨b, o, none⟩ : Addr).add j) = some u := by
  intro j u hj
  rw [addr_add, cell_of_heap hb]
  rw [← ht, List.getElem?_take] at hj
  split at hj
  · rw [List.getElem?_drop] at hj
    rw [← Array.getElem?_toList]; exact hj
  · cases hj
set_option maxRecDepth 100000 in set_option maxHeartbeats 400000 in
theorem clone_said (w : World) (v : Value) (D : Nat → Prop) (hs : List Hd) (kvs : List Value) (hR : RowAt D 41 w v hs kvs) (h1 : ∀ kv ∈ kvs, kv.oneCell' = true) (hl : hs.length ≤ 1000) :
    Calls Tryd.prog 23 #[v] w fun e w' => ∃ v', e = .returned v' ∧ w'.ownsRow w.heap.size 41 262 v' hs.length (ndsL hs kvs) ∧ Below w.heap.size w w' := by
  obtain ⟨hlen, a, cap, rfl, hc, hcells⟩ := hR
  cases a with
  | none =>
    have hs0 : hs = [] := by
      rcases hcells with h | ⟨b, o, cs, fr, -, h, -⟩
      · exact h
      · cases h
    subst hs0
    have hk0 : kvs = [] := List.length_eq_zero_iff.1 hlen
    subst hk0
    have hnil : ∀ W, (binOp .eql 29 (.slice none 0 cap) (.slice none 0 0)).run Tryd.prog W = .ok (.bool true) W := fun W => Lib.run_eql_slice_nil_nil W _ _ Tryd.underlying29
    go_enter Tryd.func23, Tryd.ntmps23
    go_wp2_with fail
    go_ret
    exact ⟨_, rfl, World.ownsRow_nil _ _ _ _, Below.refl _ _⟩
  | some ad =>
    have hnew : ∀ (j : Nat) (u : Value), (ndsL hs kvs)[j]? = some u → (w.alloc (.cells #[] 41)).cell? (ad.add j) = some u := by
      intro j u hj
      rcases hcells with rfl | ⟨b, o, cs, fr, -, h, hb, ht⟩
      · cases kvs <;> simp [ndsL] at hj
      · cases h
        exact RowAt.cells (D := D) (hb := by rw [heap_alloc_lt (lt_of_heap hb)]; exact hb) ht j u hj
    have hone := ndsL_one hs kvs h1
    have hnl := ndsL_length hs kvs hlen
    clear hcells
    have hnil : ∀ W, (binOp .eql 29 (.slice (some ad) hs.length cap) (.slice none 0 0)).run Tryd.prog W = .ok (.bool false) W := fun W => Lib.run_eql_slice_some_nil W _ _ _ Tryd.underlying29
    go_enter Tryd.func23, Tryd.ntmps23
    go_wp2_with (refine appendAt w.heap.size (size := 262) (bytes := 320) (ad := ad) (m := hs.length) (c := cap) (n := 0) (v := .slice (some ⟨w.heap.size, 0, none⟩) 0 0) Tryd.underlying29 infoNodeSome.choose_spec.1 infoNodeSome.choose_spec.2.1 infoNodeSome.choose_spec.2.2.1 infoNodeSome.choose_spec.2.2.2 (ndA_size _ _ _ _ _ _ _) (by decide) ?_ (World.ownsRow_made w #[] 0 (Nat.le_refl _) (Nat.zero_le _) rfl) (ndsL hs kvs) ?_ hnl hnew hone (by unfold maxLen; omega) (by omega) (by rw [sz_alloc]; omega) ?_; exact rfl; exact rfl; intro v' w' hown' hgr' hat'; obtain ⟨a', c', rfl⟩ := own_slice hown')
    go_ret
    refine ⟨_, rfl, by simpa using hown', ?_⟩
    have hB : Below w.heap.size w (w.alloc (.cells #[] 41)) := (Below.refl _ _).alloc (Nat.le_refl _) _
    exact (Upd.grown (S := fun k _ => k = w.heap.size) (Upd.refl _ _) hgr' fun k hk _ => by cases hk; rfl) |>.below (by rw [sz_alloc]; omega) (fun k o hk => by omega) |> hB.trans
end Go.Proofs.YtkbfckigndkkkaaDoor

/-
  Walk: nodes in memory of their own.
-/
namespace Go.Proofs.YtkbfckigndkkkaaDoor
set_option linter.unusedSimpArgs false
set_option linter.unusedVariables false
open Go Go.RowKit

section
variable {D : Nat → Prop} {e : TypeId} {w w' : World}
theorem RepK.kid : ∀ (fo : Fo) (kvs : List Value), RepK D e w fo kvs → ∀ j kv, kvs[j]? = some kv → Rep D e w kv (fo.kidsAt j) := by
  intro fo
  induction fo with
  | nil => intro kvs h j kv hk; rw [show kvs = [] from h] at hk; cases hk
  | cons hd kids rest _ ih =>
    intro kvs h j kv hk
    obtain ⟨kv', kvs', kk, rfl, h1, h2, h3⟩ := h
    cases j with
    | zero => simp only [List.getElem?_cons_zero, Option.some.injEq] at hk; subst hk; exact ⟨kk, h1, h2⟩
    | succ j => exact ih _ h3 j kv (by simpa using hk)
theorem RepK.ofKids : ∀ (fo : Fo) (kvs : List Value), kvs.length = fo.tops.length → (∀ j kv, kvs[j]? = some kv → Rep D e w kv (fo.kidsAt j)) → RepK D e w fo kvs := by
  intro fo
  induction fo with
  | nil => intro kvs h _; exact List.length_eq_zero_iff.1 h
  | cons hd kids rest _ ih =>
    intro kvs h hk
    cases kvs with
    | nil => simp [Fo.tops] at h
    | cons kv kvs =>
      obtain ⟨kk, h1, h2⟩ := hk 0 kv rfl
      exact ⟨kv, kvs, kk, rfl, h1, h2, ih kvs (by simpa [Fo.tops] using h) fun j kv' hj => hk (j + 1) kv' (by simpa using hj)⟩
end
theorem Fo.kids_size : ∀ (fo : Fo) (j : Nat), j < fo.tops.length → (fo.kidsAt j).size < fo.size
  | .nil, j, h => by simp [Fo.tops] at h
  | .cons _ k r, 0, _ => by simp only [Fo.kidsAt, Fo.size]; omega
  | .cons _ k r, j + 1, h => by
    have := Fo.kids_size r j (by simpa [Fo.tops] using h)
    simp only [Fo.kidsAt, Fo.size]; omega
/-- Blocks of B or later, but one, none of whose cells is frozen. -/
def NewB (B : Nat) (vb : Option Nat) (w : World) (j : Nat) : Prop := B ≤ j ∧ vb ≠ some j ∧ FreeB w j
theorem FreeB.same {w w' : World} {j : Nat} (h : FreeB w j) (e : w'.heap[j]? = w.heap[j]?) : FreeB w' j := fun i => by rw [World.frozen?_of_block (w := w) e]; exact h i
theorem Rep.new {B : Nat} {vb : Option Nat} {e : TypeId} {w w' : World} {v : Value} {fo : Fo} (h : Rep (NewB B vb w) e w v fo) (hk : ∀ j, B ≤ j → j < w.heap.size → vb ≠ some j → w'.heap[j]? = w.heap[j]?) : Rep (NewB B vb w') e w' v fo := by
  have h1 := h.mono (D' := fun j => NewB B vb w j ∧ j < w.heap.size) fun k hk hl => ⟨hk, hl⟩
  have h2 := h1.keep (w' := w') fun b cs fr hd hb => by rw [hk b hd.1.1 hd.2 hd.1.2.1]; exact hb
  exact h2.mono fun k hd _ => ⟨hd.1.1, hd.1.2.1, hd.1.2.2.same (hk k hd.1.1 hd.2 hd.1.2.1)⟩
theorem own_free {w : World} {base n size : Nat} {e : TypeId} {v : Value} {xs : List Value} (h : w.ownsRow base e size v n xs) {g : Nat} (hg : v.ownBlock = some g) : FreeB w g := by
  rcases h.2 with ⟨rfl, _⟩ | ⟨g', cap, cur, rfl, _, hh, _⟩
  · cases hg
  · cases hg; exact fun i => free_of_heap hh i
/-- A cell of an owned row written anew. -/
theorem own_setCell {w : World} {base n size : Nat} {e : TypeId} {g c : Nat} {xs : List Value} (h : w.ownsRow base e size (.slice (some ⟨g, 0, none⟩) n c) n xs) (i : Nat) (u : Value) :
    (w.setCell ⟨g, i, none⟩ u).ownsRow base e size (.slice (some ⟨g, 0, none⟩) n c) n (xs.set i u) := by
  obtain ⟨h1, h2⟩ := h
  rcases h2 with ⟨h2, _⟩ | ⟨g', cap, cur, hv, hb, hh, hn, hm, hs, ht⟩
  · cases h2
  · cases hv
    refine ⟨by rw [List.length_set]; exact h1, .inr ⟨g, c, cur.setIfInBounds i u, rfl, hb, heap_setCell_at hh i u, hn, hm, by simpa using hs, ?_⟩⟩
    rw [Array.toList_setIfInBounds, ← ht, List.take_set]
theorem own_keepB {w w' : World} {base n size : Nat} {e : TypeId} {v : Value} {xs : List Value} (h : w.ownsRow base e size v n xs) (hB : Below w.heap.size w w') : w'.ownsRow base e size v n xs :=
  ownsRow_keep h fun b cs fr _ hb => by rw [hB.block b (lt_of_heap hb)]; exact hb
/-- What twin leaves. -/
def TwinOut (w : World) (fo : Fo) (e : Ending) (w' : World) : Prop :=
  ∃ v' kvs, e = .returned v' ∧ w'.ownsRow w.heap.size 41 262 v' fo.tops.length (ndsL fo.tops kvs) ∧ kvs.length = fo.tops.length ∧
    (∀ j kv, kvs[j]? = some kv → Rep (NewB w.heap.size v'.ownBlock w') 41 w' kv (fo.kidsAt j)) ∧ Below w.heap.size w w'
theorem TwinOut.rep {w w' : World} {fo : Fo} {v' : Value} {kvs : List Value} (ho : w'.ownsRow w.heap.size 41 262 v' fo.tops.length (ndsL fo.tops kvs)) (hl : kvs.length = fo.tops.length)
    (hk : ∀ j kv, kvs[j]? = some kv → Rep (NewB w.heap.size v'.ownBlock w') 41 w' kv (fo.kidsAt j)) : Rep (fun j => w.heap.size ≤ j ∧ FreeB w' j) 41 w' v' fo :=
  ⟨kvs, RowAt.ofOwned ho hl fun k h => ⟨(ho.lt k h).1, own_free ho h⟩, RepK.ofKids _ _ hl fun j kv h => (hk j kv h).mono fun k hn _ => ⟨hn.1, hn.2.2⟩⟩
def TwinSaid (n : Nat) : Prop := ∀ (fo : Fo) (w : World) (v : Value) (D : Nat → Prop), fo.size < n → fo.size ≤ 1000 → Rep D 41 w v fo → Calls Tryd.prog 16 #[v] w (TwinOut w fo)
structure TwRel (w : World) (fo : Fo) (kvs : List Value) (v1 : Value) (v : Value) (wr : World) : Prop where
  ex : ∃ (i : Nat) (ks : List Value), v = .int .i64 i ∧ i ≤ fo.tops.length ∧ ks.length = fo.tops.length ∧ wr.ownsRow w.heap.size 41 262 v1 fo.tops.length (ndsL fo.tops ks) ∧
    (∀ j kv, j < i → ks[j]? = some kv → Rep (NewB w.heap.size v1.ownBlock wr) 41 wr kv (fo.kidsAt j)) ∧ (∀ j, i ≤ j → ks[j]? = kvs[j]?) ∧ Below w.heap.size w wr
theorem kid_cell {w : World} {base : Nat} {g c : Nat} {hs : List Hd} {ks : List Value} (h : w.ownsRow base 41 262 (.slice (some ⟨g, 0, none⟩) hs.length c) hs.length (ndsL hs ks)) (hl : ks.length = hs.length) {i : Nat} {kv : Value} (hi : ks[i]? = some kv) :
    w.cell? ⟨g, i * 262 + 261, none⟩ = some kv := by
  have hlt : i < hs.length := by
    rcases Nat.lt_or_ge i hs.length with h | h
    · exact h
    · rw [List.getElem?_eq_none (by omega)] at hi; cases hi
  obtain ⟨h0, hh⟩ : ∃ h0, hs[i]? = some h0 := ⟨_, List.getElem?_eq_getElem hlt⟩
  have h1 := ndsL_get hs ks i 261 h0 kv hl hh hi (by omega)
  have h2 : (ndHL h0 kv)[261]? = some kv := by rw [← ndH_toList, Array.getElem?_toList]; exact ndA_get261 _ _ _ _ _ _ _
  rw [h2] at h1
  have := h.cells (g := g) rfl _ _ h1
  rw [addr_add, Nat.zero_add] at this
  exact this
set_option maxRecDepth 100000 in set_option maxHeartbeats 4000000 in
theorem twin_any (n : Nat) (ih : ∀ m, m < n → TwinSaid m) : TwinSaid n := by
  intro fo w v D hn hz hR
  obtain ⟨kvs, hAt, hK⟩ := hR
  have hkl := RepK.length _ _ hK
  have hk1 := RepK.one _ _ hK
  have htl := Fo.tops_size fo
  have hCl := clone_said w v D fo.tops kvs hAt hk1 (by omega)
  have hkid := RepK.kid _ _ hK
  clear hK
  obtain ⟨-, a0, c0, rfl, -⟩ := hAt
  have HCL := Lib.hid hCl
  clear hCl
  go_enter Tryd.func16, Tryd.ntmps16
  go_wp2_with (go_at_call 23; refine HCL.out.mono ?_; rintro e w1 ⟨v1, rfl, hown1, hB1⟩; obtain ⟨a1, c1, rfl⟩ := own_slice hown1)
  go_loopw [8] (fun v wr => TwRel w fo kvs (.slice a1 fo.tops.length c1) v wr) (fun v _ => match v with | .int _ i => fo.tops.length - i.toNat | _ => 0)
  case atStart => exact ⟨0, kvs, rfl, Nat.zero_le _, hkl, hown1, fun j kv hj _ => by omega, fun j _ => rfl, hB1⟩
  case round =>
    obtain ⟨i, ks, rfl, hi, hksl, hown, hnew, hold, hB⟩ := hrel.ex
    by_cases hlt : i < fo.tops.length
    · have hlt2 : (i : Int) < (fo.tops.length : Int) := by omega
      obtain ⟨g, rfl⟩ : ∃ g, a1 = some ⟨g, 0, none⟩ := by
        rcases hown.2 with ⟨_, h2⟩ | ⟨g, cap, cur, hv, _⟩
        · omega
        · cases hv; exact ⟨g, rfl⟩
      obtain ⟨kv, hkv⟩ : ∃ kv, ks[i]? = some kv := ⟨_, List.getElem?_eq_getElem (by omega)⟩
      have hcell := kid_cell hown hksl hkv
      have hRk := hkid i kv (by rw [← hold i (Nat.le_refl _)]; exact hkv)
      have hRk2 := hRk.keep (Keep.ofBelow hB)
      obtain ⟨a2, c2, rfl⟩ := hRk2.slice
      have hgl := lt_of_cell hcell
      have hfz : wr.frozen? ⟨g, i * 262 + 261, none⟩ = false := own_free hown rfl _
      have hsz := Fo.kids_size fo i hlt
      have hcall := ih fo.size hn (fo.kidsAt i) wr _ D hsz (by omega) hRk2
      have HC := Lib.hid hcall
      clear hcall
      go_wp2_with (go_at_call 16; refine HC.out.mono ?_; rintro e w2 ⟨v2, ks2, rfl, hown2, hkl2, hkid2, hB2⟩; obtain ⟨a3, c3, rfl⟩ := own_slice hown2; have hcell2 : w2.cell? ⟨g, i * 262 + 261, none⟩ = some (.slice a2 (fo.kidsAt i).tops.length c2) := (by rw [World.cell?_of_block (w := wr) (hB2.block _ hgl)]; exact hcell); have hfz2 : w2.frozen? ⟨g, i * 262 + 261, none⟩ = false := (by rw [World.frozen?_of_block (w := wr) (hB2.block _ hgl)]; exact hfz))
      go_roundw
      case rel =>
        refine ⟨i + 1, ks.set i (.slice a3 (fo.kidsAt i).tops.length c3), by simp, hlt, by rw [List.length_set]; exact hksl, ?_, ?_, ?_, ?_⟩
        · rw [← ndsL_set _ _ _ _ hksl hlt]
          exact own_setCell (own_keepB hown hB2) _ _
        · intro j kv' hj hk
          rw [List.getElem?_set] at hk
          by_cases hji : i = j
          · subst hji
            rw [if_pos rfl, if_pos (by omega)] at hk
            cases hk
            have h1 := TwinOut.rep hown2 hkl2 hkid2
            have h2 : Rep (NewB w.heap.size (some g) w2) 41 w2 (.slice a3 (fo.kidsAt i).tops.length c3) (fo.kidsAt i) := h1.mono fun k hk _ => ⟨by have := hB.size; omega, by intro he; cases he; omega, hk.2⟩
            exact h2.new fun k _ _ hne => hq_set (fun he => hne (by rw [he]))
          · rw [if_neg hji] at hk
            have h1 := hnew j kv' (by omega) hk
            refine h1.new fun k _ hlt hne => ?_
            rw [hq_set (fun he => hne (by rw [he]; rfl)), hB2.block k hlt]
        · intro j hj
          rw [List.getElem?_set_ne (by omega)]
          exact hold j (by omega)
        · exact (hB.trans (hB2.mono hB.size)).setCell (by have := (hown.lt g rfl).1; exact this) _
      case measure => simp only [Int.toNat_natCast, Int.toNat_natCast_add_one]; omega
    · have hlt2 : ¬ (i : Int) < (fo.tops.length : Int) := by omega
      have hin : i = fo.tops.length := by omega
      subst hin
      go_wp2_with fail
      go_ret
      exact ⟨_, ks, rfl, hown, hksl, fun j kv hk => hnew j kv (by
        rcases Nat.lt_or_ge j ks.length with h | h
        · omega
        · rw [List.getElem?_eq_none h] at hk; cases hk) hk, hB⟩
theorem twin_said : ∀ n, TwinSaid n := fun n => Nat.strongRecOn n fun n ih => twin_any n ih
end Go.Proofs.YtkbfckigndkkkaaDoor

/-
  Walks: the readers of a pattern.
-/
namespace Go.Proofs.YtkbfckigndkkkaaDoor
set_option linter.unusedSimpArgs false
set_option linter.unusedVariables false
open Go Go.RowKit

/-- The pattern's fields in its parser's block. -/
def PB (w : World) (b : Nat) (v : Value) (g m : Int) (r : Bool) : Prop := ∃ s ov, w.heap[b]? = some (.cells #[.string s, v, .int .i64 g, .int .i64 m, .bool r, ov] 50 (0, 0))
theorem PB.below {w w' : World} {b : Nat} {v : Value} {g m : Int} {r : Bool} (h : PB w b v g m r) (hB : Below w.heap.size w w') : PB w' b v g m r :=
  let ⟨s, ov, h⟩ := h
  ⟨s, ov, by rw [hB.block b (lt_of_heap h)]; exact h⟩
theorem PB.cells {w : World} {b : Nat} {v : Value} {g m : Int} {r : Bool} (h : PB w b v g m r) : b < w.heap.size ∧ w.cell? ⟨b, 1, none⟩ = some v ∧ w.cell? ⟨b, 2, none⟩ = some (.int .i64 g) ∧ w.cell? ⟨b, 3, none⟩ = some (.int .i64 m) ∧ w.cell? ⟨b, 4, none⟩ = some (.bool r) := by
  obtain ⟨s, ov, h⟩ := h
  refine ⟨lt_of_heap h, ?_, ?_, ?_, ?_⟩ <;> rw [cell_of_heap h] <;> rfl
set_option maxRecDepth 100000 in set_option maxHeartbeats 400000 in
theorem tree_said (w : World) (b : Nat) (v : Value) (g m : Int) (r : Bool) (fo : Fo) (D : Nat → Prop) (hP : PB w b v g m r) (hR : Rep D 41 w v fo) (hz : fo.size ≤ 1000) :
    Calls Tryd.prog 6 #[.pointer (some ⟨b, 1, none⟩)] w (TwinOut w fo) := by
  obtain ⟨hb, c1, -, -, -⟩ := hP.cells
  have hT := twin_said (fo.size + 1) fo w v D (by omega) hz hR
  have HT := Lib.hid hT
  clear hT
  obtain ⟨a, c, rfl⟩ := hR.slice
  go_enter Tryd.func6, Tryd.ntmps6
  go_wp2_with (go_at_call 16; refine HT.out.mono ?_; rintro e w2 ⟨v2, ks2, rfl, hown2, hkl2, hkid2, hB2⟩; obtain ⟨a3, c3, rfl⟩ := own_slice hown2)
  go_ret
  exact ⟨_, ks2, rfl, hown2, hkl2, hkid2, hB2⟩
set_option maxRecDepth 100000 in set_option maxHeartbeats 400000 in
theorem tree_nil (w : World) : Calls Tryd.prog 6 #[.pointer none] w fun e w' => e = .returned (.slice none 0 0) ∧ w' = w := by
  go_enter Tryd.func6, Tryd.ntmps6
  go_wp2_with fail
  go_ret
  exact ⟨rfl, rfl⟩
set_option maxRecDepth 100000 in set_option maxHeartbeats 400000 in
theorem groups_said (w : World) (b : Nat) (v : Value) (g m : Int) (r : Bool) (hP : PB w b v g m r) : Calls Tryd.prog 7 #[.pointer (some ⟨b, 1, none⟩)] w fun e w' => e = .returned (.int .i64 g) ∧ w' = w := by
  obtain ⟨hb, c1, c2, c3, c4⟩ := hP.cells
  go_enter Tryd.func7, Tryd.ntmps7
  go_wp2_with fail
  go_ret
  exact ⟨rfl, rfl⟩
set_option maxRecDepth 100000 in set_option maxHeartbeats 400000 in
theorem groups_nil (w : World) : Calls Tryd.prog 7 #[.pointer none] w fun e w' => e = .returned (.int .i64 0) ∧ w' = w := by
  go_enter Tryd.func7, Tryd.ntmps7
  go_wp2_with fail
  go_ret
  exact ⟨rfl, rfl⟩
set_option maxRecDepth 100000 in set_option maxHeartbeats 400000 in
theorem parts_said (w : World) (b : Nat) (v : Value) (g m : Int) (r : Bool) (hP : PB w b v g m r) : Calls Tryd.prog 9 #[.pointer (some ⟨b, 1, none⟩)] w fun e w' => e = .returned (.int .i64 m) ∧ w' = w := by
  obtain ⟨hb, c1, c2, c3, c4⟩ := hP.cells
  go_enter Tryd.func9, Tryd.ntmps9
  go_wp2_with fail
  go_ret
  exact ⟨rfl, rfl⟩
set_option maxRecDepth 100000 in set_option maxHeartbeats 400000 in
theorem parts_nil (w : World) : Calls Tryd.prog 9 #[.pointer none] w fun e w' => e = .returned (.int .i64 0) ∧ w' = w := by
  go_enter Tryd.func9, Tryd.ntmps9
  go_wp2_with fail
  go_ret
  exact ⟨rfl, rfl⟩
set_option maxRecDepth 100000 in set_option maxHeartbeats 400000 in
theorem refs_said (w : World) (b : Nat) (v : Value) (g m : Int) (r : Bool) (hP : PB w b v g m r) : Calls Tryd.prog 8 #[.pointer (some ⟨b, 1, none⟩)] w fun e w' => e = .returned (.bool r) ∧ w' = w := by
  obtain ⟨hb, c1, c2, c3, c4⟩ := hP.cells
  go_enter Tryd.func8, Tryd.ntmps8
  go_wp2_with fail
  go_ret
  exact ⟨rfl, rfl⟩
set_option maxRecDepth 100000 in set_option maxHeartbeats 400000 in
theorem refs_nil (w : World) : Calls Tryd.prog 8 #[.pointer none] w fun e w' => e = .returned (.bool false) ∧ w' = w := by
  go_enter Tryd.func8, Tryd.ntmps8
  go_wp2_with fail
  go_ret
  exact ⟨rfl, rfl⟩
end Go.Proofs.YtkbfckigndkkkaaDoor
