/-
  Laws: sets are the same; a node read out of a row.
-/
import Derived.Test.YtkbfckigndkkkaaDoorTw1
import Derived.Test.YtkbfckigndkkkaaDoorRr10
import Derived.ChangeKeysEq
import Derived.Deep.MidRow
namespace Go.Proofs.YtkbfckigndkkkaaDoor
set_option linter.unusedSimpArgs false
set_option linter.unusedVariables false
open Go Go.RowKit

theorem eqItems_set (f : UInt8 → Bool) (d : Nat) (w : World) : ∀ is : List Nat, (∀ i ∈ is, i < 256) → (Op.eqItems (d + 1) 4 (Tryd.prog.cellsOf 4) (setA f) (setA f) is).run Tryd.prog w = .ok true w
  | [], _ => by simp [Op.eqItems]
  | i :: is, h => by
    have hc : Tryd.prog.cellsOf 4 = 1 := by kernel_rfl
    have hg : (setA f)[i * 1]? = some (.bool (f (UInt8.ofNat i))) := by
      rw [Nat.mul_one]; unfold setA; rw [List.getElem?_toArray]; exact setL_get f i (h i (by simp))
    have hp := run_part_plain (P := Tryd.prog) w (e := 4) (by kernel_rfl) hg
    have ih := eqItems_set f d w is fun j hj => h j (by simp [hj])
    rw [hc] at ih ⊢
    simp only [Op.eqItems, Sem.run_bind, hp, Result.andThen_ok, run_equalIn_bool w d 4 _ _ Tryd.underlying4, beq_self_eq_true]
    simpa using ih
theorem equal_set (f : UInt8 → Bool) (w : World) : (Op.equalIn 10000 39 (.agg (setA f)) (.agg (setA f))).run Tryd.prog w = .ok true w := by
  obtain ⟨i, hi⟩ : ∃ i, Tryd.prog.info? 4 = some i := info_of_underlying Tryd.underlying4
  rw [run_equalIn_array (P := Tryd.prog) w 9999 (setA f) (setA f) Tryd.underlying39 hi]
  exact eqItems_set f 9998 w _ fun i hi => by simpa using hi
theorem neq_set (f : UInt8 → Bool) (w : World) : (binOp .neq 39 (.agg (setL f).toArray) (.agg (setL f).toArray)).run Tryd.prog w = .ok (.bool false) w := by
  rw [run_neq_struct]
  have h := equal_set f w
  unfold setA at h
  rw [h]
  rfl
theorem setL_range {w : World} {b : Nat} {h : Hd} {kv : Value} {e : TypeId} {fr : Nat × Nat} (hb : w.heap[b]? = some (.cells (ndH h kv) e fr)) : w.rangeAt b 2 (setL h.set) := by
  intro j v hj
  have hlt : j < 256 := by
    rcases Nat.lt_or_ge j 256 with h | h
    · exact h
    · rw [List.getElem?_eq_none (by rw [setL_length]; exact h)] at hj; cases hj
  rw [setL_get _ _ hlt] at hj
  cases hj
  rw [cell_of_heap hb, Nat.add_comm]
  exact ndA_getSet _ _ _ _ _ _ _ _ hlt
theorem load_set {w : World} {b : Nat} {h : Hd} {kv : Value} {e : TypeId} {fr : Nat × Nat} (hb : w.heap[b]? = some (.cells (ndH h kv) e fr)) :
    (Instr.loadAt 39 (.pointer (some ⟨b, 2, none⟩))).run Tryd.prog w = .ok (.agg (setA h.set)) w :=
  run_loadAt_mid w b 2 39 (setL h.set) _ (setL_range hb) Tryd.underlying39 rfl (by rw [setL_length]; kernel_rfl)
/-- A row's node as a range of cells. -/
theorem RowAt.range {D : Nat → Prop} {e : TypeId} {w : World} {v : Value} {hs : List Hd} {kvs : List Value} (h : RowAt D e w v hs kvs) (hne : hs ≠ []) :
    ∃ b o cap, v = .slice (some ⟨b, o, none⟩) hs.length cap ∧ b < w.heap.size ∧ ∀ (i : Nat) (h0 : Hd) (kv : Value), hs[i]? = some h0 → kvs[i]? = some kv → ∀ w' : World, w'.heap[b]? = w.heap[b]? → w'.rangeAt b (o + i * 262) (ndHL h0 kv) := by
  obtain ⟨b, o, cap, cs, fr, hv, -, -, hb, hc⟩ := h.parts hne
  refine ⟨b, o, cap, hv, lt_of_heap hb, fun i h0 kv hh hk w' hw j u hj => ?_⟩
  have hlt : j < 262 := by
    rcases Nat.lt_or_ge j 262 with h | h
    · exact h
    · rw [List.getElem?_eq_none (by rw [ndHL_length]; exact h)] at hj; cases hj
  have h1 := hc i h0 kv hh hk j hlt
  rw [cell_of_heap (by rw [hw]; exact hb), show o + i * 262 + j = o + (i * 262 + j) by omega, h1, ← Array.getElem?_toList]
  exact hj
/-- A fresh block of the type is written anew. -/
structure Tch (e : TypeId) (B : Nat) (w w' : World) : Prop where
  below : B ≤ w.heap.size → Below B w w'
  size : w.heap.size ≤ w'.heap.size
  shape : ∀ (k : Nat) (cs : Array Value) (t : TypeId), w.heap[k]? = some (Obj.cells cs t (0, 0)) → ∃ cs' : Array Value, w'.heap[k]? = some (Obj.cells cs' t (0, 0)) ∧ cs'.size = cs.size
  other : ∀ (k : Nat) (cs : Array Value) (t : TypeId), t ≠ e → w.heap[k]? = some (Obj.cells cs t (0, 0)) → w'.heap[k]? = some (Obj.cells cs t (0, 0))
theorem Tch.ofBelow {e : TypeId} {B : Nat} {w w' : World} (h : Below w.heap.size w w') : Tch e B w w' :=
  ⟨fun hB => h.mono hB, h.size, fun k cs t hk => ⟨cs, by rw [h.block k (lt_of_heap hk)]; exact hk, rfl⟩, fun k cs t _ hk => by rw [h.block k (lt_of_heap hk)]; exact hk⟩
theorem Tch.setRow {e : TypeId} {B : Nat} {w : World} {g : Nat} {old cs : Array Value} (hg : w.heap[g]? = some (.cells old e (0, 0))) (hs : cs.size = old.size) (hB : B ≤ g) : Tch e B w (w.setRow g cs) := by
  refine ⟨fun hb => (Upd.setRow (S := fun k _ => k = g) (Upd.refl _ _) g cs fun _ => rfl).below hb fun k o hk => by omega, by rw [sz_row]; exact Nat.le_refl _, fun k c t hk => ?_, fun k c t ht hk => ?_⟩
  · by_cases h : k = g
    · subst h
      rw [hg] at hk
      cases hk
      exact ⟨cs, setRow_heap _ _ _ _ _ _ hg, hs⟩
    · exact ⟨c, by rw [hq_row h]; exact hk, rfl⟩
  · by_cases h : k = g
    · subst h
      rw [hg] at hk
      cases hk
      exact absurd rfl ht
    · rw [hq_row h]; exact hk
end Go.Proofs.YtkbfckigndkkkaaDoor

/-
  Walk: are nodes the document's? They are.
-/
namespace Go.Proofs.YtkbfckigndkkkaaDoor
set_option linter.unusedSimpArgs false
set_option linter.unusedVariables false
open Go Go.RowKit

theorem ndH_size (h : Hd) (kv : Value) : (ndH h kv).size = 262 := ndA_size _ _ _ _ _ _ _
def sameR (B : Nat) (j : Nat) (w1 w2 : World) : Prop := match j with | 10 => Tch 41 B w1 w2 | 11 => Tch 60 B w1 w2 | _ => Below w1.heap.size w1 w2
/-- What any of its operations leaves as it was. -/
structure AnyR (B : Nat) (w w' : World) : Prop where
  below : B ≤ w.heap.size → Below B w w'
  shape : ∀ (k : Nat) (cs : Array Value) (t : TypeId), w.heap[k]? = some (Obj.cells cs t (0, 0)) → ∃ cs' : Array Value, w'.heap[k]? = some (Obj.cells cs' t (0, 0)) ∧ cs'.size = cs.size
theorem same_rel {B j : Nat} {w w' : World} (h : sameR B j w w') : AnyR B w w' := by
  unfold sameR at h
  split at h
  · exact ⟨h.below, h.shape⟩
  · exact ⟨h.below, h.shape⟩
  · have h := Tch.ofBelow (e := 0) (B := B) h
    exact ⟨h.below, h.shape⟩
theorem same_keep1 {B j : Nat} {w w' : World} (h : sameR B j w w') (hj : j ≠ 10) {k : Nat} {cs : Array Value} (hk : w.heap[k]? = some (.cells cs 41 (0, 0))) : w'.heap[k]? = some (.cells cs 41 (0, 0)) := by
  unfold sameR at h
  split at h
  · exact absurd rfl hj
  · exact h.other _ _ _ (by decide) hk
  · rw [h.block k (lt_of_heap hk)]; exact hk
theorem same_keep2 {B j : Nat} {w w' : World} (h : sameR B j w w') (hj : j ≠ 11) {k : Nat} {cs : Array Value} (hk : w.heap[k]? = some (.cells cs 60 (0, 0))) : w'.heap[k]? = some (.cells cs 60 (0, 0)) := by
  unfold sameR at h
  split at h
  · exact h.other _ _ _ (by decide) hk
  · exact absurd rfl hj
  · rw [h.block k (lt_of_heap hk)]; exact hk
/-- A node in a variable. -/
theorem node_cells {w : World} {b : Nat} {h : Hd} {kv : Value} {e : TypeId} {fr : Nat × Nat} (hb : w.heap[b]? = some (.cells (ndH h kv) e fr)) :
    b < w.heap.size ∧ w.cell? ⟨b, 0, none⟩ = some (.int .i64 h.kind) ∧ w.cell? ⟨b, 1, none⟩ = some (.int .u8 (h.byte.toNat : Int)) ∧ w.cell? ⟨b, 258, none⟩ = some (.int .i64 h.n) ∧ w.cell? ⟨b, 259, none⟩ = some (.int .i64 h.mn) ∧ w.cell? ⟨b, 260, none⟩ = some (.int .i64 h.mx) ∧ w.cell? ⟨b, 261, none⟩ = some kv := by
  refine ⟨lt_of_heap hb, ?_, ?_, ?_, ?_, ?_, ?_⟩ <;> rw [cell_of_heap hb] <;> unfold ndH
  · exact ndA_get0 _ _ _ _ _ _ _
  · exact ndA_get1 _ _ _ _ _ _ _
  · exact ndA_get258 _ _ _ _ _ _ _
  · exact ndA_get259 _ _ _ _ _ _ _
  · exact ndA_get260 _ _ _ _ _ _ _
  · exact ndA_get261 _ _ _ _ _ _ _
def SameSaid (n : Nat) : Prop := ∀ (fo : Fo) (w : World) (v1 v2 : Value) (D1 D2 : Nat → Prop), fo.size < n → fo.size ≤ 1000 → Rep D1 41 w v1 fo → Rep D2 60 w v2 fo →
  Calls Tryd.prog 11 #[v1, v2] w fun e w' => e = .returned (.bool true) ∧ Below w.heap.size w w'
set_option maxRecDepth 100000 in set_option maxHeartbeats 4000000 in
theorem same_any (n : Nat) (ih : ∀ m, m < n → SameSaid m) : SameSaid n := by
  intro fo w v1 v2 D1 D2 hn hz hR1 hR2
  obtain ⟨kvs1, hAt1, hK1⟩ := hR1
  obtain ⟨kvs2, hAt2, hK2⟩ := hR2
  have htl := Fo.tops_size fo
  have hkl1 := RepK.length _ _ hK1
  have hkl2 := RepK.length _ _ hK2
  have hkid1 := RepK.kid _ _ hK1
  have hkid2 := RepK.kid _ _ hK2
  have hon1 := RepK.one _ _ hK1
  have hon2 := RepK.one _ _ hK2
  clear hK1 hK2
  by_cases hne : fo.tops = []
  · obtain ⟨-, a1, cap1, rfl, -⟩ := hAt1
    obtain ⟨-, a2, cap2, rfl, -⟩ := hAt2
    rw [hne]
    go_enter Tryd.func11, Tryd.ntmps11
    go_wp2_with fail
    go_loopw [5] (fun v wr => v = .int .i64 0 ∧ wr = w) (fun v _ => 0)
    case atStart => exact ⟨rfl, rfl⟩
    case round =>
      obtain ⟨rfl, rfl⟩ := hrel
      go_wp2_with fail
      go_ret
      exact ⟨rfl, Below.refl _ _⟩
  · obtain ⟨b1, o1, cap1, rfl, hbl1, hrow1⟩ := hAt1.range hne
    obtain ⟨b2, o2, cap2, rfl, hbl2, hrow2⟩ := hAt2.range hne
    have HA := Lib.hid hAt1
    clear hAt1 hAt2 HA
    go_enter Tryd.func11, Tryd.ntmps11
    go_wp2_with fail
    go_loopw [5] (fun v wr => ∃ i : Nat, v = .int .i64 i ∧ i ≤ fo.tops.length ∧ Below w.heap.size w wr) (fun v _ => match v with | .int _ i => fo.tops.length - i.toNat | _ => 0)
    case atStart => exact ⟨0, rfl, Nat.zero_le _, Below.refl _ _⟩
    case round =>
      obtain ⟨i, rfl, hi, hB⟩ := hrel
      by_cases hlt : i < fo.tops.length
      · have hlt2 : (i : Int) < (fo.tops.length : Int) := by omega
        obtain ⟨h, hh⟩ : ∃ h, fo.tops[i]? = some h := ⟨_, List.getElem?_eq_getElem hlt⟩
        obtain ⟨kv1, hkv1⟩ : ∃ kv, kvs1[i]? = some kv := ⟨_, List.getElem?_eq_getElem (by omega)⟩
        obtain ⟨kv2, hkv2⟩ : ∃ kv, kvs2[i]? = some kv := ⟨_, List.getElem?_eq_getElem (by omega)⟩
        have hr1 := hkid1 i kv1 hkv1
        have hr2 := hkid2 i kv2 hkv2
        have hone1 := hr1.one
        have hone2 := hr2.one
        have hrg1 : ∀ w' : World, w'.heap[b1]? = wr.heap[b1]? → w'.rangeAt b1 (o1 + i * 262) (ndHL h kv1) := fun w' e => hrow1 i h kv1 hh hkv1 w' (e.trans (hB.block _ hbl1))
        have hrg2 : ∀ w' : World, w'.heap[b2]? = wr.heap[b2]? → w'.rangeAt b2 (o2 + i * 262) (ndHL h kv2) := fun w' e => hrow2 i h kv2 hh hkv2 w' (e.trans (hB.block _ hbl2))
        have hbw1 : b1 < wr.heap.size := Nat.lt_of_lt_of_le hbl1 hB.size
        have hbw2 : b2 < wr.heap.size := Nat.lt_of_lt_of_le hbl2 hB.size
        have HH := Lib.hid hh
        clear hh hkv1 hkv2
        go_upto_region 6 with fail
        go_cut [6, 7] from 13 to 74 (fun v6 v7 wx => ∃ k1 k2 : Nat, v6 = .pointer (some ⟨k1, 0, none⟩) ∧ v7 = .pointer (some ⟨k2, 0, none⟩) ∧ wr.heap.size ≤ k1 ∧ wr.heap.size ≤ k2 ∧ wx.heap[k1]? = some (.cells (ndH h kv1) 41 (0, 0)) ∧ wx.heap[k2]? = some (.cells (ndH h kv2) 60 (0, 0)) ∧ Below wr.heap.size wr wx)
        case first =>
          clear hbl1 hbl2
          have hbl1 := hbw1
          have hbl2 := hbw2
          refine wp_region_facts (w0 := wr) (by kernel_rfl) (fun j w1 w2 => match j with | 10 => Tch 41 wr.heap.size w1 w2 | 11 => Tch 60 wr.heap.size w1 w2 | _ => Below w1.heap.size w1 w2) (fun w1 w2 => wr.heap.size ≤ w1.heap.size → Below wr.heap.size w1 w2)
            (fun j vals w2 => match j with | 0 => vals 0 = .slice (some ⟨b1, o1, none⟩) fo.tops.length cap1 | 1 => vals 1 = .int .i64 (i : Int) | 2 => vals 2 = .pointer (some ⟨b1, o1 + i * 262, none⟩) | 3 => vals 3 = .agg (ndHL h kv1).toArray | 4 => vals 4 = .slice (some ⟨b2, o2, none⟩) fo.tops.length cap2 | 5 => vals 5 = .int .i64 (i : Int) | 6 => vals 6 = .pointer (some ⟨b2, o2 + i * 262, none⟩) | 7 => vals 7 = .agg (ndHL h kv2).toArray | 8 => ∃ k, vals 8 = .pointer (some ⟨k, 0, none⟩) ∧ wr.heap.size ≤ k ∧ ∃ cs : Array Value, w2.heap[k]? = some (.cells cs 41 (0, 0)) ∧ cs.size = 262 | 9 => ∃ k, vals 9 = .pointer (some ⟨k, 0, none⟩) ∧ wr.heap.size ≤ k ∧ ∃ cs : Array Value, w2.heap[k]? = some (.cells cs 60 (0, 0)) ∧ cs.size = 262 | 10 => ∃ k, vals 8 = .pointer (some ⟨k, 0, none⟩) ∧ wr.heap.size ≤ k ∧ w2.heap[k]? = some (.cells (ndH h kv1) 41 (0, 0)) | 11 => ∃ k, vals 9 = .pointer (some ⟨k, 0, none⟩) ∧ wr.heap.size ≤ k ∧ w2.heap[k]? = some (.cells (ndH h kv2) 60 (0, 0)) | _ => True) (fun _ w2 => Below wr.heap.size wr w2) (by kernel_rfl) (by kernel_rfl) (by kernel_rfl) ?_ ?_ ?_ ?_ ?_ ?_ ?_ ?_ ?_
          · exact fun w1 _ => Below.refl _ _
          · intro j w1 w2 w3 h1 h2 hb
            have h1 := h1 hb
            exact h1.trans ((same_rel h2).below (Nat.le_trans hb h1.size))
          · intro j w1
            match j with
            | 10 => exact Tch.ofBelow (Below.refl _ _)
            | 11 => exact Tch.ofBelow (Below.refl _ _)
            | 0 | 1 | 2 | 3 | 4 | 5 | 6 | 7 | 8 | 9 => exact Below.refl _ _
            | n + 12 => exact Below.refl _ _
          · intro j _
            exact ⟨rfl, rfl, rfl, Nat.le_refl _, fun _ _ => rfl⟩
          · intro j k w1 w2 _ _ _ _ hg h2
            exact hg.trans ((same_rel h2).below hg.size)
          · intro j k vals w1 w2 hj _ hne _ hF h2
            match j, hF with
            | 0, hF => exact hF
            | 1, hF => exact hF
            | 2, hF => exact hF
            | 3, hF => exact hF
            | 4, hF => exact hF
            | 5, hF => exact hF
            | 6, hF => exact hF
            | 7, hF => exact hF
            | 8, hF =>
              obtain ⟨m, h1, h3, cs, h4, h5⟩ := hF
              obtain ⟨cs', h6, h7⟩ := (same_rel h2).shape _ _ _ h4
              exact ⟨m, h1, h3, cs', h6, h7.trans h5⟩
            | 9, hF =>
              obtain ⟨m, h1, h3, cs, h4, h5⟩ := hF
              obtain ⟨cs', h6, h7⟩ := (same_rel h2).shape _ _ _ h4
              exact ⟨m, h1, h3, cs', h6, h7.trans h5⟩
            | 10, hF =>
              obtain ⟨m, h1, h3, h4⟩ := hF
              exact ⟨m, h1, h3, same_keep1 h2 hne h4⟩
            | 11, hF =>
              obtain ⟨m, h1, h3, h4⟩ := hF
              exact ⟨m, h1, h3, same_keep2 h2 hne h4⟩
            | n + 12, _ => exact trivial
          · intro j k vals v w1 hj hne hk hF
            match j, hF with
            | 0, hF => exact (updV_ne (Ne.symm hne)).trans hF
            | 1, hF => exact (updV_ne (Ne.symm hne)).trans hF
            | 2, hF => exact (updV_ne (Ne.symm hne)).trans hF
            | 3, hF => exact (updV_ne (Ne.symm hne)).trans hF
            | 4, hF => exact (updV_ne (Ne.symm hne)).trans hF
            | 5, hF => exact (updV_ne (Ne.symm hne)).trans hF
            | 6, hF => exact (updV_ne (Ne.symm hne)).trans hF
            | 7, hF => exact (updV_ne (Ne.symm hne)).trans hF
            | 8, hF =>
              have e8 : updV vals k v 8 = vals 8 := updV_ne (Ne.symm hne)
              simp only [e8]
              exact hF
            | 9, hF =>
              have e8 : updV vals k v 9 = vals 9 := updV_ne (Ne.symm hne)
              simp only [e8]
              exact hF
            | 10, hF =>
              have e8 : updV vals k v 8 = vals 8 := updV_ne (fun e => hk (by rw [← e]; exact mem_ancs (by kernel_rfl)))
              simp only [e8]
              exact hF
            | 11, hF =>
              have e8 : updV vals k v 9 = vals 9 := updV_ne (fun e => hk (by rw [← e]; exact mem_ancs (by kernel_rfl)))
              simp only [e8]
              exact hF
            | n + 12, _ => exact trivial
          · intro j o ho
            match j, ho with
            | 0, ho =>
              obtain rfl := Option.some.inj ho
              clear ho
              intro vals w1 a hg hF ha
              refine (if_pos rfl).mpr (.inl ?_)
              have e0 : a.eval (.tmp 0) = .slice (some ⟨b1, o1, none⟩) fo.tops.length cap1 := (ha (.tmp 0) (by simp [Op.operands, Call.operands])).trans rfl
              refine wp_value (v := .slice (some ⟨b1, o1, none⟩) fo.tops.length cap1) ?_ ⟨_, rfl, rfl, Below.refl _ _⟩
              have hc : ∀ v, a.eval (.const v) = v := fun _ => rfl
              clear ha hF
              generalize a.eval = ρ at *
              simp [execOp, go_sem, e0, hc]
            | 1, ho =>
              obtain rfl := Option.some.inj ho
              clear ho
              intro vals w1 a hg hF ha
              refine (if_pos rfl).mpr (.inl ?_)
              have e0 : a.eval (.tmp 5) = .int .i64 (i : Int) := (ha (.tmp 5) (by simp [Op.operands, Call.operands])).trans rfl
              refine wp_value (v := .int .i64 (i : Int)) ?_ ⟨_, rfl, rfl, Below.refl _ _⟩
              have hc : ∀ v, a.eval (.const v) = v := fun _ => rfl
              clear ha hF
              generalize a.eval = ρ at *
              simp [execOp, go_sem, e0, hc]
            | 2, ho =>
              obtain rfl := Option.some.inj ho
              clear ho
              intro vals w1 a hg hF ha
              refine (if_pos rfl).mpr (.inl ?_)
              have f0 : vals 0 = .slice (some ⟨b1, o1, none⟩) fo.tops.length cap1 := hF 0 (mem_ancs (by kernel_rfl))
              have e0 : a.eval (.tmp 19) = .slice (some ⟨b1, o1, none⟩) fo.tops.length cap1 := ((ha (.tmp 19) (by simp [Op.operands, Call.operands])).trans rfl).trans f0
              have f1 : vals 1 = .int .i64 (i : Int) := hF 1 (mem_ancs (by kernel_rfl))
              have e1 : a.eval (.tmp 20) = .int .i64 (i : Int) := ((ha (.tmp 20) (by simp [Op.operands, Call.operands])).trans rfl).trans f1
              refine wp_value (v := .pointer (some ⟨b1, o1 + i * 262, none⟩)) ?_ ⟨_, rfl, rfl, Below.refl _ _⟩
              have hc : ∀ v, a.eval (.const v) = v := fun _ => rfl
              clear ha hF
              generalize a.eval = ρ at *
              simp [execOp, go_sem, e0, e1, hc, hlt2]
            | 3, ho =>
              obtain rfl := Option.some.inj ho
              clear ho
              intro vals w1 a hg hF ha
              refine (if_pos rfl).mpr (.inl ?_)
              have f0 : vals 2 = .pointer (some ⟨b1, o1 + i * 262, none⟩) := hF 2 (mem_ancs (by kernel_rfl))
              have e0 : a.eval (.tmp 21) = .pointer (some ⟨b1, o1 + i * 262, none⟩) := ((ha (.tmp 21) (by simp [Op.operands, Call.operands])).trans rfl).trans f0
              exact wp_load_mid 41 (.tmp 21) rfl b1 (o1 + i * 262) e0 (ndHL h kv1) _ (hrg1 w1 (hg.block _ hbl1)) Tryd.underlying41 rfl (by rw [ndHL_length]; exact infoNode) ⟨_, rfl, rfl, Below.refl _ _⟩
            | 4, ho =>
              obtain rfl := Option.some.inj ho
              clear ho
              intro vals w1 a hg hF ha
              refine (if_pos rfl).mpr (.inl ?_)
              have e0 : a.eval (.tmp 1) = .slice (some ⟨b2, o2, none⟩) fo.tops.length cap2 := (ha (.tmp 1) (by simp [Op.operands, Call.operands])).trans rfl
              refine wp_value (v := .slice (some ⟨b2, o2, none⟩) fo.tops.length cap2) ?_ ⟨_, rfl, rfl, Below.refl _ _⟩
              have hc : ∀ v, a.eval (.const v) = v := fun _ => rfl
              clear ha hF
              generalize a.eval = ρ at *
              simp [execOp, go_sem, e0, hc]
            | 5, ho =>
              obtain rfl := Option.some.inj ho
              clear ho
              intro vals w1 a hg hF ha
              refine (if_pos rfl).mpr (.inl ?_)
              have e0 : a.eval (.tmp 5) = .int .i64 (i : Int) := (ha (.tmp 5) (by simp [Op.operands, Call.operands])).trans rfl
              refine wp_value (v := .int .i64 (i : Int)) ?_ ⟨_, rfl, rfl, Below.refl _ _⟩
              have hc : ∀ v, a.eval (.const v) = v := fun _ => rfl
              clear ha hF
              generalize a.eval = ρ at *
              simp [execOp, go_sem, e0, hc]
            | 6, ho =>
              obtain rfl := Option.some.inj ho
              clear ho
              intro vals w1 a hg hF ha
              refine (if_pos rfl).mpr (.inl ?_)
              have f0 : vals 4 = .slice (some ⟨b2, o2, none⟩) fo.tops.length cap2 := hF 4 (mem_ancs (by kernel_rfl))
              have e0 : a.eval (.tmp 23) = .slice (some ⟨b2, o2, none⟩) fo.tops.length cap2 := ((ha (.tmp 23) (by simp [Op.operands, Call.operands])).trans rfl).trans f0
              have f1 : vals 5 = .int .i64 (i : Int) := hF 5 (mem_ancs (by kernel_rfl))
              have e1 : a.eval (.tmp 24) = .int .i64 (i : Int) := ((ha (.tmp 24) (by simp [Op.operands, Call.operands])).trans rfl).trans f1
              refine wp_value (v := .pointer (some ⟨b2, o2 + i * 262, none⟩)) ?_ ⟨_, rfl, rfl, Below.refl _ _⟩
              have hc : ∀ v, a.eval (.const v) = v := fun _ => rfl
              clear ha hF
              generalize a.eval = ρ at *
              simp [execOp, go_sem, e0, e1, hc, hlt2]
            | 7, ho =>
              obtain rfl := Option.some.inj ho
              clear ho
              intro vals w1 a hg hF ha
              refine (if_pos rfl).mpr (.inl ?_)
              have f0 : vals 6 = .pointer (some ⟨b2, o2 + i * 262, none⟩) := hF 6 (mem_ancs (by kernel_rfl))
              have e0 : a.eval (.tmp 25) = .pointer (some ⟨b2, o2 + i * 262, none⟩) := ((ha (.tmp 25) (by simp [Op.operands, Call.operands])).trans rfl).trans f0
              exact wp_load_mid 60 (.tmp 25) rfl b2 (o2 + i * 262) e0 (ndHL h kv2) _ (hrg2 w1 (hg.block _ hbl2)) Tryd.underlying60 rfl (by rw [ndHL_length]; exact infoRN) ⟨_, rfl, rfl, Below.refl _ _⟩
            | 8, ho =>
              obtain rfl := Option.some.inj ho
              clear ho
              intro vals w1 a hg hF ha
              refine (if_pos rfl).mpr (.inl ?_)
              refine wp_value (v := .pointer (some ⟨w1.heap.size, 0, none⟩)) (w' := w1.alloc (.cells (ndA 0 0 noS 0 0 0 (.slice none 0 0)) 41)) ?_ ⟨_, rfl, ⟨_, rfl, hg.size, _, heap_alloc_new w1 _, ndA_size _ _ _ _ _ _ _⟩, (Below.refl _ _).alloc (Nat.le_refl _) _⟩
              clear ha hF
              generalize a.eval = ρ at *
              simp [execOp, go_sem]
            | 9, ho =>
              obtain rfl := Option.some.inj ho
              clear ho
              intro vals w1 a hg hF ha
              refine (if_pos rfl).mpr (.inl ?_)
              refine wp_value (v := .pointer (some ⟨w1.heap.size, 0, none⟩)) (w' := w1.alloc (.cells (ndA 0 0 noS 0 0 0 (.slice none 0 0)) 60)) ?_ ⟨_, rfl, ⟨_, rfl, hg.size, _, heap_alloc_new w1 _, ndA_size _ _ _ _ _ _ _⟩, (Below.refl _ _).alloc (Nat.le_refl _) _⟩
              clear ha hF
              generalize a.eval = ρ at *
              simp [execOp, go_sem]
            | 10, ho =>
              obtain rfl := Option.some.inj ho
              clear ho
              intro vals w1 a hg hF ha
              refine (if_pos rfl).mpr (.inl ?_)
              obtain ⟨k, f0, hk, cs, hcs, hsz⟩ : ∃ k, vals 8 = .pointer (some ⟨k, 0, none⟩) ∧ wr.heap.size ≤ k ∧ ∃ cs : Array Value, w1.heap[k]? = some (.cells cs 41 (0, 0)) ∧ cs.size = 262 := hF 8 (mem_ancs (by kernel_rfl))
              have f1 : vals 3 = .agg (ndHL h kv1).toArray := hF 3 (mem_ancs (by kernel_rfl))
              have e0 : a.eval (.tmp 6) = .pointer (some ⟨k, 0, none⟩) := ((ha (.tmp 6) (by simp [Op.operands, Call.operands])).trans rfl).trans f0
              have e1 : a.eval (.tmp 22) = .agg (ndH h kv1) := ((ha (.tmp 22) (by simp [Op.operands, Call.operands])).trans rfl).trans f1
              refine wp_store_row 41 (.tmp 6) (.tmp 22) rfl k (ndH h kv1) e0 e1 41 cs hcs (by rw [ndH_size]; exact infoNode) (by rw [ndH_size]; exact hsz) (ndA_one _ _ _ _ _ _ _ hone1) ⟨_, rfl, ⟨k, f0, hk, setRow_heap _ _ _ _ _ _ hcs⟩, ?_⟩
              exact Tch.setRow hcs (by rw [ndH_size, hsz]) hk
            | 11, ho =>
              obtain rfl := Option.some.inj ho
              clear ho
              intro vals w1 a hg hF ha
              refine (if_pos rfl).mpr (.inl ?_)
              obtain ⟨k, f0, hk, cs, hcs, hsz⟩ : ∃ k, vals 9 = .pointer (some ⟨k, 0, none⟩) ∧ wr.heap.size ≤ k ∧ ∃ cs : Array Value, w1.heap[k]? = some (.cells cs 60 (0, 0)) ∧ cs.size = 262 := hF 9 (mem_ancs (by kernel_rfl))
              have f1 : vals 7 = .agg (ndHL h kv2).toArray := hF 7 (mem_ancs (by kernel_rfl))
              have e0 : a.eval (.tmp 7) = .pointer (some ⟨k, 0, none⟩) := ((ha (.tmp 7) (by simp [Op.operands, Call.operands])).trans rfl).trans f0
              have e1 : a.eval (.tmp 26) = .agg (ndH h kv2) := ((ha (.tmp 26) (by simp [Op.operands, Call.operands])).trans rfl).trans f1
              refine wp_store_row 60 (.tmp 7) (.tmp 26) rfl k (ndH h kv2) e0 e1 60 cs hcs (by rw [ndH_size]; exact infoRN) (by rw [ndH_size]; exact hsz) (ndA_one _ _ _ _ _ _ _ hone2) ⟨_, rfl, ⟨k, f0, hk, setRow_heap _ _ _ _ _ _ hcs⟩, ?_⟩
              exact Tch.setRow hcs (by rw [ndH_size, hsz]) hk
            | n + 12, ho => simp at ho
          · intro vals w2 hT hV
            obtain ⟨k1, f8, hk1, h8⟩ : ∃ k, vals 8 = .pointer (some ⟨k, 0, none⟩) ∧ wr.heap.size ≤ k ∧ w2.heap[k]? = some (.cells (ndH h kv1) 41 (0, 0)) := hV 10 (by decide)
            obtain ⟨k2, f9, hk2, h9⟩ : ∃ k, vals 9 = .pointer (some ⟨k, 0, none⟩) ∧ wr.heap.size ≤ k ∧ w2.heap[k]? = some (.cells (ndH h kv2) 60 (0, 0)) := hV 11 (by decide)
            have hB2 := hT (Nat.le_refl _)
            simp only [putList, Act.put, List.setIfInBounds_toArray, List.set_cons_zero, List.set_cons_succ, Nat.zero_add, Nat.reduceAdd]
            go_wp2_with fail
            go_meet
            exact ⟨k1, k2, f8, f9, hk1, hk2, h8, h9, ⟨hB2.os, hB2.tape, hB2.output, hB2.size, hB2.block⟩⟩
        case rest =>
          obtain ⟨k1, k2, rfl, rfl, hk1, hk2, h1, h2, hB2⟩ := hcut
          obtain ⟨hl1, c10, c11, c12, c13, c14, c15⟩ := node_cells h1
          obtain ⟨hl2, c20, c21, c22, c23, c24, c25⟩ := node_cells h2
          have hset1 := setL_range h1
          have hset2 := setL_range h2
          have hneq : ∀ W, (binOp .neq 39 (.agg (setL h.set).toArray) (.agg (setL h.set).toArray)).run Tryd.prog W = .ok (.bool false) W := neq_set h.set
          have hBB := hB.trans (hB2.mono hB.size)
          have hcall := ih fo.size hn (fo.kidsAt i) wc kv1 kv2 D1 D2 (Fo.kids_size fo i hlt) (by have := Fo.kids_size fo i hlt; omega) (hr1.keep (Keep.ofBelow hBB)) (hr2.keep (Keep.ofBelow hBB))
          have HC := Lib.hid hcall
          clear hcall hr1 hr2 h1 h2
          go_wp2_with fail
          refine wp_load_mid 39 (.tmp 40) rfl k1 2 rfl (setL h.set) _ hset1 Tryd.underlying39 rfl (by rw [setL_length]; kernel_rfl) ?_
          go_wp2_with fail
          refine wp_load_mid 39 (.tmp 42) rfl k2 2 rfl (setL h.set) _ hset2 Tryd.underlying39 rfl (by rw [setL_length]; kernel_rfl) ?_
          go_wp2_with (go_at_call 11; refine HC.out.mono ?_; rintro e w2 ⟨rfl, hB3⟩)
          go_roundw
          case rel => exact ⟨i + 1, by simp, hlt, hBB.trans (hB3.mono hBB.size)⟩
          case measure => simp only [Int.toNat_natCast, Int.toNat_natCast_add_one]; omega
      · have hlt2 : ¬ (i : Int) < (fo.tops.length : Int) := by omega
        go_wp2_with fail
        go_ret
        exact ⟨rfl, hB⟩
theorem same_said : ∀ n, SameSaid n := fun n => Nat.strongRecOn n fun n ih => same_any n ih
end Go.Proofs.YtkbfckigndkkkaaDoor
