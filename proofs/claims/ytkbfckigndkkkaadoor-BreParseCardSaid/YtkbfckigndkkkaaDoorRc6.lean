/-
  Walk: the document's expressions in brackets.
-/
import Derived.Test.YtkbfckigndkkkaaDoorRc4
import Derived.Test.YtkbfckigndkkkaaDoorBw5
namespace Go.Proofs.YtkbfckigndkkkaaDoor
set_option linter.unusedSimpArgs false
set_option linter.unusedVariables false
open Go Go.RowKit

theorem stFresh2 {ops : Array Oper} {rest : List Oper} {ty : TypeId} {pos : String} {after : Array Edge} {a : Act} {w : World} {Q : Exit → Act → World → Prop} {x y : Operand} {f old : UInt8 → Bool} (hx : a.eval x = .pointer (some ⟨w.heap.size, 0, none⟩)) (hy : a.eval y = .agg (setA f))
    (h : wpList Tryd.prog ops Q rest a (w.alloc (.cells (setA f) 39))) : wpList Tryd.prog ops Q (⟨none, .store 39 x y, ty, pos, after, none⟩ :: rest) a (w.alloc (.cells (setA old) 39)) := by
  refine stS256 hx hy (hq_eq rfl) ?_
  rw [World.setRow_alloc_new]; exact h
theorem mix_same (g h : UInt8 → Bool) (i : Nat) (e : ∀ c, g c = h c) : mixF g h i = h := by
  funext c
  unfold mixF
  split
  · exact e c
  · rfl
set_option maxRecDepth 100000 in set_option maxHeartbeats 4000000 in
theorem rparse_any (w : World) (s : ByteArray) (k : Nat) (hl : s.size ≤ 1000) (hk : k < s.size) (h91 : (((s[k]'hk).toNat : Int) == 91) = true) :
    Calls Tryd.prog 32 #[.string s, .int .i64 k] w (ClsOut w s.size (clsParse (s.data.toList.drop k))) := by
  obtain ⟨q0, q1, q2, hB⟩ := three_sets w
  obtain ⟨nt, hnt⟩ : ∃ nt, nt = Lib.hasPrefix (s.data.toList.drop (k + 1)) [94] := ⟨_, rfl⟩
  have hX := clsParse_at hk h91 nt (if nt then k + 2 else k + 1) hnt rfl
  have hn1 : nt = if h : k + 1 < s.size then (((s[k + 1]'h).toNat : Int) == 94) else false := hnt.trans (has_one 94)
  have HX := Lib.hid hX
  clear hX hnt
  have h91' : (((s[k]'hk).toNat : Int) != 91) = false := by rw [bne_eq_false_iff_eq]; exact beq_iff_eq.1 h91
  go_enter Tryd.func32, Tryd.ntmps32
  have HN := Lib.hid hn1
  clear hn1
  go_upto_region 2 with fail
  try rw [zeroSet]
  generalize ((w.alloc (.cells (setA noS) 39)).alloc (.cells (setA noS) 39)).alloc (.cells (setA noS) 39) = W at *
  go_upto_region 5 with fail
  go_cut [10] from 11 (fun v wx => v = .bool nt ∧ W = wx)
  case first =>
    by_cases h1 : k + 1 < s.size
    · have hn := HN.out
      rw [dif_pos h1] at hn
      have HN2 := Lib.hid hn
      clear hn
      go_wp2_with fail
      go_meet
      exact ⟨by rw [HN2.out], rfl⟩
    · have hn := HN.out
      rw [dif_neg h1] at hn
      have HN2 := Lib.hid hn
      clear hn
      go_wp2_with fail
      go_meet
      exact ⟨by rw [HN2.out], rfl⟩
  case rest =>
    obtain ⟨rfl, rfl⟩ := hcut
    have hle : nt = true → k + 2 ≤ s.size := by
      intro h
      have hn := HN.out
      rw [h] at hn
      split at hn
      · omega
      · cases hn
    obtain ⟨G, hG⟩ : ∃ G, clsLoop (s.size - k) (s.data.toList.drop (if nt then k + 2 else k + 1)) true noS = G := ⟨_, rfl⟩
    have hX := HX.out
    rw [hG] at hX
    replace HX := Lib.hid hX
    have HG := Lib.hid hG
    clear hX hG
    cases nt with
    | true =>
      have hle := hle rfl
      have hAt : RcRel w s G (.int .i64 ((k : Int) + 1 + 1)) (.bool true) W := ⟨s.size - k, k + 2, true, noS, by simp; omega, rfl, HG.out, by omega, by omega, q0, q1, q2, hB⟩
      go_wp2_with fail
      go_loopw [9, 11] (fun v u wr => RcRel w s G v u wr) (fun v _ _ => match v with | .int _ i => s.size - i.toNat | _ => 0)
      case atStart => exact hAt
      case round =>
        clear hAt q0 q1 q2 hB
        obtain ⟨n, i, first, acc, rfl, rfl, hR, hn, hi, q0, q1, q2, hB⟩ := hrel
        obtain ⟨n, rfl⟩ : ∃ n', n = n' + 1 := ⟨n - 1, by omega⟩
        have HR := Lib.hid hR
        clear hR
        by_cases hstop : first = false ∧ ∃ h : i < s.size, (((s[i]'h).toNat : Int) != 93) = false
        · obtain ⟨rfl, hi1, h93⟩ := hstop
          have hpx : Lib.hasPrefix (s.data.toList.drop i) [93] = true := by
            rw [has_one, dif_pos hi1, beq_iff_eq]; exact bne_eq_false_iff_eq.1 h93
          have hGG : G = some (acc, s.data.toList.drop i) := HR.out.symm.trans (clsLoop_stop hpx)
          have hge : decide (s.size ≤ i) = false := decide_eq_false (by omega)
          have hXs : clsParse (s.data.toList.drop k) = some (fun c => acc c != true, (s.data.toList.drop i).drop 1) := by rw [HX.out, hGG]
          have HXS := Lib.hid hXs
          clear hXs hGG
          go_wp2_with fail
          go_loopw [16] (fun v wr => ∃ c : Nat, c ≤ 256 ∧ v = .int .i64 c ∧ wr.heap[w.heap.size]? = some (.cells (setA noS) 39 (0, 0)) ∧ wr.heap[w.heap.size + 1]? = some (.cells (setA (mixF (fun c => acc c != true) acc c)) 39 (0, 0)) ∧ Below w.heap.size w wr) (fun v _ => match v with | .int _ i => 256 - i.toNat | _ => 0)
          case atStart => exact ⟨0, by omega, rfl, q0, by rw [mix_start]; exact q1, hB⟩
          case round =>
            clear q0 q1 q2 hB
            obtain ⟨c, hc, rfl, q0, q1, hB⟩ := hrel
            rcases Nat.lt_or_ge c 256 with hlt | hge2
            · have hcell := set_cell q1 hlt
              have hfr := free_of_heap q1 c
              have hbl := lt_of_heap q1
              rw [mix_at _ _ _ hlt] at hcell
              go_wp2_with fail
              go_roundw
              case rel => exact ⟨c + 1, hlt, by simp, (hq_set (by simp)).trans q0, by rw [heap_setCell_at q1, mix_step _ _ _ hlt (by cases acc (UInt8.ofNat c) <;> rfl)], hB.setCell (by simp) _⟩
              case measure => simp only [Int.toNat_natCast]; omega
            · have hc2 : c = 256 := by omega
              subst hc2
              rw [mix_end] at q1
              go_wp2_with (first | ((with_reducible apply ldS256); (focus rfl); (first | assumption | (focus ((try simp (disch := (first | (simp only [sz_alloc, sz_set, sz_row, sz_drew, sz_drewN] <;> omega) | omega)) only [hq_eq, hq_ne, hq_set, hq_row, hq_drew, hq_drewN]) <;> (first | rfl | assumption))))) | ((with_reducible apply stS256); (focus rfl); (focus rfl); (first | assumption | (focus ((try simp (disch := (first | (simp only [sz_alloc, sz_set, sz_row, sz_drew, sz_drewN] <;> omega) | omega)) only [hq_eq, hq_ne, hq_set, hq_row, hq_drew, hq_drewN]) <;> (first | rfl | assumption))))))
              refine retSet rfl rfl rfl (setRow_heap _ _ _ _ _ _ q0) ?_
              rw [HXS.out]
              refine ⟨?_, below_setRow hB _ (Nat.le_refl _)⟩
              have hlq := bytes_len s
              have hn : (i : Int) + 1 = (s.size : Int) - (((s.data.toList.drop i).drop 1).length : Nat) := by rw [List.drop_drop, List.length_drop, ← hlq]; omega
              rw [← hn]
              exact congrArg (fun f => Ending.returned (Value.tuple #[.agg (setA f), .int .i64 ((i : Int) + 1), .int .i64 0])) (show _ = (fun c => acc c != true) from by funext c; cases acc c <;> rfl)
        · have hgo : first = true ∨ Lib.hasPrefix (s.data.toList.drop i) [93] = false := by
            cases first with
            | true => exact .inl rfl
            | false =>
              refine .inr ?_
              rw [has_one]
              split
              · rename_i h
                rw [beq_eq_false_iff_ne]
                intro e
                exact hstop ⟨rfl, h, by rw [bne_eq_false_iff_eq]; exact e⟩
              · rfl
          have hr2 := HR.out.symm.trans (clsLoop_go hgo)
          have HR2 := Lib.hid hr2
          clear hr2
          cases first with
          | true =>
            clear hstop hgo
            go_wp2_with fail
            refine (rpart_any _ s i hl hi).mono ?_
            intro e wq hP
            have hr2 := HR2.out
            have hlq := bytes_len s
            cases hq : clsPart (s.data.toList.drop i) with
            | none =>
              rw [hq] at hP hr2
              obtain ⟨⟨f, m, rfl⟩, hB1⟩ := hP
              have hXn : clsParse (s.data.toList.drop k) = none := by rw [HX.out, hr2]
              have HXN := Lib.hid hXn
              have p0 := (hB1.block _ (lt_of_heap q0)).trans q0
              have p1 := (hB1.block _ (lt_of_heap q1)).trans q1
              have p2 := (hB1.block _ (lt_of_heap q2)).trans q2
              have hB2 := hB.trans (hB1.mono hB.size)
              have hsz := lt_of_heap p2
              clear hXn hr2 hq hlq
              go_wp2_with (first | ((with_reducible apply ldS256); (focus rfl); (first | assumption | (focus ((try simp (disch := (first | (simp only [sz_alloc, sz_set, sz_row, sz_drew, sz_drewN] <;> omega) | omega)) only [hq_eq, hq_ne, hq_set, hq_row, hq_drew, hq_drewN]) <;> (first | rfl | assumption))))) | ((with_reducible apply stFresh2); (focus rfl); (focus rfl)) | ((with_reducible apply stS256); (focus rfl); (focus rfl); (first | assumption | (focus ((try simp (disch := (first | (simp only [sz_alloc, sz_set, sz_row, sz_drew, sz_drewN] <;> omega) | omega)) only [hq_eq, hq_ne, hq_set, hq_row, hq_drew, hq_drewN]) <;> (first | rfl | assumption))))))
              refine retSet rfl rfl rfl (setRow_heap _ _ _ _ _ _ ((heap_alloc_lt (by omega)).trans p0)) ?_
              rw [HXN.out]
              exact ⟨⟨noS, rfl⟩, below_setRow (hB2.alloc (by omega) _) _ (Nat.le_refl _)⟩
            | some p =>
              obtain ⟨f, r0⟩ := p
              have hlt2 := clsPart_lt hq
              have hsuf := clsPart_suf hq
              rw [hq] at hP hr2
              obtain ⟨rfl, hB1⟩ := hP
              simp only at hr2
              rw [List.length_drop, ← hlq] at hlt2
              obtain ⟨j, hj, hj2, hj3⟩ : ∃ j : Nat, (s.size : Int) - (r0.length : Nat) = (j : Int) ∧ r0 = s.data.toList.drop j ∧ i < j ∧ j ≤ s.size := by
                refine ⟨s.size - r0.length, by omega, ?_, by omega, by omega⟩
                rw [hlq]
                exact List.suffix_iff_eq_drop.1 (hsuf.trans (List.drop_suffix _ _))
              rw [hj2] at hr2
              rw [hj]
              have HH := Lib.hid hr2
              have p0 := (hB1.block _ (lt_of_heap q0)).trans q0
              have p1 := (hB1.block _ (lt_of_heap q1)).trans q1
              have p2 := (hB1.block _ (lt_of_heap q2)).trans q2
              have hB2 := hB.trans (hB1.mono hB.size)
              have hsz := lt_of_heap p2
              clear hr2 hq hlt2 hlq hsuf hj hj2 q0 q1 q2 hB hB1
              go_wp2_with ((with_reducible apply stFresh2); (focus rfl); (focus rfl))
              have r0 := (heap_alloc_lt (w := wq) (o := .cells (setA f) 39) (by omega : w.heap.size < wq.heap.size)).trans p0
              have r1 := (heap_alloc_lt (w := wq) (o := .cells (setA f) 39) (by omega : w.heap.size + 1 < wq.heap.size)).trans p1
              have r2 := (heap_alloc_lt (w := wq) (o := .cells (setA f) 39) hsz).trans p2
              have r3 : (wq.alloc (.cells (setA f) 39)).heap[wq.heap.size]? = some (.cells (setA f) 39 (0, 0)) := hq_eq rfl
              have hB3 := hB2.alloc (by omega : w.heap.size ≤ wq.heap.size) (.cells (setA f) 39)
              generalize hWQ : wq.alloc (.cells (setA f) 39) = wz at *
              clear hWQ p0 p1 p2 hB2
              go_loopw [15] (fun v wr => ∃ c : Nat, c ≤ 256 ∧ v = .int .i64 c ∧ wr.heap[w.heap.size]? = some (.cells (setA noS) 39 (0, 0)) ∧ wr.heap[w.heap.size + 1]? = some (.cells (setA (mixF (fun x => acc x || f x) acc c)) 39 (0, 0)) ∧ wr.heap[w.heap.size + 2]? = some (.cells (setA noS) 39 (0, 0)) ∧ wr.heap[wq.heap.size]? = some (.cells (setA f) 39 (0, 0)) ∧ Below w.heap.size w wr) (fun v _ => match v with | .int _ i => 256 - i.toNat | _ => 0)
              case atStart => exact ⟨0, by omega, rfl, r0, by rw [mix_start]; exact r1, r2, r3, hB3⟩
              case round =>
                clear r0 r1 r2 r3 hB3
                obtain ⟨c, hc, rfl, q0, q1, q2, q3, hB⟩ := hrel
                rcases Nat.lt_or_ge c 256 with hlt | hge
                · have hcell := set_cell q1 hlt
                  have hcell3 := set_cell q3 hlt
                  have hfr := free_of_heap q1 c
                  have hbl := lt_of_heap q1
                  have hbl3 := lt_of_heap q3
                  rw [mix_at _ _ _ hlt] at hcell
                  cases hac : acc (UInt8.ofNat c) with
                  | true =>
                    rw [hac] at hcell
                    go_wp2_with fail
                    all_goals
                      (go_roundw
                       case rel => exact ⟨c + 1, hlt, by simp, (hq_set (by simp)).trans q0, by rw [heap_setCell_at q1, mix_step _ _ _ hlt (by simp [hac])], (hq_set (by simp)).trans q2, (hq_set (by simp; omega)).trans q3, hB.setCell (by simp) _⟩
                       case measure => simp only [Int.toNat_natCast]; omega)
                  | false =>
                    rw [hac] at hcell
                    go_wp2_with fail
                    all_goals
                      (go_roundw
                       case rel => exact ⟨c + 1, hlt, by simp, (hq_set (by simp)).trans q0, by rw [heap_setCell_at q1, mix_step _ _ _ hlt (by simp [hac])], (hq_set (by simp)).trans q2, (hq_set (by simp; omega)).trans q3, hB.setCell (by simp) _⟩
                       case measure => simp only [Int.toNat_natCast]; omega)
                · have hc2 : c = 256 := by omega
                  subst hc2
                  rw [mix_end] at q1
                  go_wp2_with fail
                  all_goals
                    (go_roundw
                     case rel => exact ⟨n, j, false, _, rfl, rfl, HH.out.symm, by omega, hj3.2, q0, q1, q2, hB⟩
                     case measure => simp only [Int.toNat_natCast]; omega)
          | false =>
            by_cases hi1 : i < s.size
            · have h93 : (((s[i]'hi1).toNat : Int) != 93) = true := by
                cases h : (((s[i]'hi1).toNat : Int) != 93) with
                | true => rfl
                | false => exact absurd ⟨rfl, hi1, h⟩ hstop
              have hge : decide (s.size ≤ i) = false := decide_eq_false (by omega)
              clear hstop hgo
              go_wp2_with fail
              refine (rpart_any _ s i hl hi).mono ?_
              intro e wq hP
              have hr2 := HR2.out
              have hlq := bytes_len s
              cases hq : clsPart (s.data.toList.drop i) with
              | none =>
                rw [hq] at hP hr2
                obtain ⟨⟨f, m, rfl⟩, hB1⟩ := hP
                have hXn : clsParse (s.data.toList.drop k) = none := by rw [HX.out, hr2]
                have HXN := Lib.hid hXn
                have p0 := (hB1.block _ (lt_of_heap q0)).trans q0
                have p1 := (hB1.block _ (lt_of_heap q1)).trans q1
                have p2 := (hB1.block _ (lt_of_heap q2)).trans q2
                have hB2 := hB.trans (hB1.mono hB.size)
                have hsz := lt_of_heap p2
                clear hXn hr2 hq hlq
                go_wp2_with (first | ((with_reducible apply ldS256); (focus rfl); (first | assumption | (focus ((try simp (disch := (first | (simp only [sz_alloc, sz_set, sz_row, sz_drew, sz_drewN] <;> omega) | omega)) only [hq_eq, hq_ne, hq_set, hq_row, hq_drew, hq_drewN]) <;> (first | rfl | assumption))))) | ((with_reducible apply stFresh2); (focus rfl); (focus rfl)) | ((with_reducible apply stS256); (focus rfl); (focus rfl); (first | assumption | (focus ((try simp (disch := (first | (simp only [sz_alloc, sz_set, sz_row, sz_drew, sz_drewN] <;> omega) | omega)) only [hq_eq, hq_ne, hq_set, hq_row, hq_drew, hq_drewN]) <;> (first | rfl | assumption))))))
                refine retSet rfl rfl rfl (setRow_heap _ _ _ _ _ _ ((heap_alloc_lt (by omega)).trans p0)) ?_
                rw [HXN.out]
                exact ⟨⟨noS, rfl⟩, below_setRow (hB2.alloc (by omega) _) _ (Nat.le_refl _)⟩
              | some p =>
                obtain ⟨f, r0⟩ := p
                have hlt2 := clsPart_lt hq
                have hsuf := clsPart_suf hq
                rw [hq] at hP hr2
                obtain ⟨rfl, hB1⟩ := hP
                simp only at hr2
                rw [List.length_drop, ← hlq] at hlt2
                obtain ⟨j, hj, hj2, hj3⟩ : ∃ j : Nat, (s.size : Int) - (r0.length : Nat) = (j : Int) ∧ r0 = s.data.toList.drop j ∧ i < j ∧ j ≤ s.size := by
                  refine ⟨s.size - r0.length, by omega, ?_, by omega, by omega⟩
                  rw [hlq]
                  exact List.suffix_iff_eq_drop.1 (hsuf.trans (List.drop_suffix _ _))
                rw [hj2] at hr2
                rw [hj]
                have HH := Lib.hid hr2
                have p0 := (hB1.block _ (lt_of_heap q0)).trans q0
                have p1 := (hB1.block _ (lt_of_heap q1)).trans q1
                have p2 := (hB1.block _ (lt_of_heap q2)).trans q2
                have hB2 := hB.trans (hB1.mono hB.size)
                have hsz := lt_of_heap p2
                clear hr2 hq hlt2 hlq hsuf hj hj2 q0 q1 q2 hB hB1
                go_wp2_with ((with_reducible apply stFresh2); (focus rfl); (focus rfl))
                have r0 := (heap_alloc_lt (w := wq) (o := .cells (setA f) 39) (by omega : w.heap.size < wq.heap.size)).trans p0
                have r1 := (heap_alloc_lt (w := wq) (o := .cells (setA f) 39) (by omega : w.heap.size + 1 < wq.heap.size)).trans p1
                have r2 := (heap_alloc_lt (w := wq) (o := .cells (setA f) 39) hsz).trans p2
                have r3 : (wq.alloc (.cells (setA f) 39)).heap[wq.heap.size]? = some (.cells (setA f) 39 (0, 0)) := hq_eq rfl
                have hB3 := hB2.alloc (by omega : w.heap.size ≤ wq.heap.size) (.cells (setA f) 39)
                generalize hWQ : wq.alloc (.cells (setA f) 39) = wz at *
                clear hWQ p0 p1 p2 hB2
                go_loopw [15] (fun v wr => ∃ c : Nat, c ≤ 256 ∧ v = .int .i64 c ∧ wr.heap[w.heap.size]? = some (.cells (setA noS) 39 (0, 0)) ∧ wr.heap[w.heap.size + 1]? = some (.cells (setA (mixF (fun x => acc x || f x) acc c)) 39 (0, 0)) ∧ wr.heap[w.heap.size + 2]? = some (.cells (setA noS) 39 (0, 0)) ∧ wr.heap[wq.heap.size]? = some (.cells (setA f) 39 (0, 0)) ∧ Below w.heap.size w wr) (fun v _ => match v with | .int _ i => 256 - i.toNat | _ => 0)
                case atStart => exact ⟨0, by omega, rfl, r0, by rw [mix_start]; exact r1, r2, r3, hB3⟩
                case round =>
                  clear r0 r1 r2 r3 hB3
                  obtain ⟨c, hc, rfl, q0, q1, q2, q3, hB⟩ := hrel
                  rcases Nat.lt_or_ge c 256 with hlt | hge
                  · have hcell := set_cell q1 hlt
                    have hcell3 := set_cell q3 hlt
                    have hfr := free_of_heap q1 c
                    have hbl := lt_of_heap q1
                    have hbl3 := lt_of_heap q3
                    rw [mix_at _ _ _ hlt] at hcell
                    cases hac : acc (UInt8.ofNat c) with
                    | true =>
                      rw [hac] at hcell
                      go_wp2_with fail
                      all_goals
                        (go_roundw
                         case rel => exact ⟨c + 1, hlt, by simp, (hq_set (by simp)).trans q0, by rw [heap_setCell_at q1, mix_step _ _ _ hlt (by simp [hac])], (hq_set (by simp)).trans q2, (hq_set (by simp; omega)).trans q3, hB.setCell (by simp) _⟩
                         case measure => simp only [Int.toNat_natCast]; omega)
                    | false =>
                      rw [hac] at hcell
                      go_wp2_with fail
                      all_goals
                        (go_roundw
                         case rel => exact ⟨c + 1, hlt, by simp, (hq_set (by simp)).trans q0, by rw [heap_setCell_at q1, mix_step _ _ _ hlt (by simp [hac])], (hq_set (by simp)).trans q2, (hq_set (by simp; omega)).trans q3, hB.setCell (by simp) _⟩
                         case measure => simp only [Int.toNat_natCast]; omega)
                  · have hc2 : c = 256 := by omega
                    subst hc2
                    rw [mix_end] at q1
                    go_wp2_with fail
                    all_goals
                      (go_roundw
                       case rel => exact ⟨n, j, false, _, rfl, rfl, HH.out.symm, by omega, hj3.2, q0, q1, q2, hB⟩
                       case measure => simp only [Int.toNat_natCast]; omega)
            · have hge : decide (s.size ≤ i) = true := decide_eq_true (by omega)
              clear hstop hgo
              go_wp2_with fail
              refine (rpart_any _ s i hl hi).mono ?_
              intro e wq hP
              have hr2 := HR2.out
              have hlq := bytes_len s
              cases hq : clsPart (s.data.toList.drop i) with
              | none =>
                rw [hq] at hP hr2
                obtain ⟨⟨f, m, rfl⟩, hB1⟩ := hP
                have hXn : clsParse (s.data.toList.drop k) = none := by rw [HX.out, hr2]
                have HXN := Lib.hid hXn
                have p0 := (hB1.block _ (lt_of_heap q0)).trans q0
                have p1 := (hB1.block _ (lt_of_heap q1)).trans q1
                have p2 := (hB1.block _ (lt_of_heap q2)).trans q2
                have hB2 := hB.trans (hB1.mono hB.size)
                have hsz := lt_of_heap p2
                clear hXn hr2 hq hlq
                go_wp2_with (first | ((with_reducible apply ldS256); (focus rfl); (first | assumption | (focus ((try simp (disch := (first | (simp only [sz_alloc, sz_set, sz_row, sz_drew, sz_drewN] <;> omega) | omega)) only [hq_eq, hq_ne, hq_set, hq_row, hq_drew, hq_drewN]) <;> (first | rfl | assumption))))) | ((with_reducible apply stFresh2); (focus rfl); (focus rfl)) | ((with_reducible apply stS256); (focus rfl); (focus rfl); (first | assumption | (focus ((try simp (disch := (first | (simp only [sz_alloc, sz_set, sz_row, sz_drew, sz_drewN] <;> omega) | omega)) only [hq_eq, hq_ne, hq_set, hq_row, hq_drew, hq_drewN]) <;> (first | rfl | assumption))))))
                refine retSet rfl rfl rfl (setRow_heap _ _ _ _ _ _ ((heap_alloc_lt (by omega)).trans p0)) ?_
                rw [HXN.out]
                exact ⟨⟨noS, rfl⟩, below_setRow (hB2.alloc (by omega) _) _ (Nat.le_refl _)⟩
              | some p =>
                obtain ⟨f, r0⟩ := p
                have hlt2 := clsPart_lt hq
                have hsuf := clsPart_suf hq
                rw [hq] at hP hr2
                obtain ⟨rfl, hB1⟩ := hP
                simp only at hr2
                rw [List.length_drop, ← hlq] at hlt2
                obtain ⟨j, hj, hj2, hj3⟩ : ∃ j : Nat, (s.size : Int) - (r0.length : Nat) = (j : Int) ∧ r0 = s.data.toList.drop j ∧ i < j ∧ j ≤ s.size := by
                  refine ⟨s.size - r0.length, by omega, ?_, by omega, by omega⟩
                  rw [hlq]
                  exact List.suffix_iff_eq_drop.1 (hsuf.trans (List.drop_suffix _ _))
                rw [hj2] at hr2
                rw [hj]
                have HH := Lib.hid hr2
                have p0 := (hB1.block _ (lt_of_heap q0)).trans q0
                have p1 := (hB1.block _ (lt_of_heap q1)).trans q1
                have p2 := (hB1.block _ (lt_of_heap q2)).trans q2
                have hB2 := hB.trans (hB1.mono hB.size)
                have hsz := lt_of_heap p2
                clear hr2 hq hlt2 hlq hsuf hj hj2 q0 q1 q2 hB hB1
                go_wp2_with ((with_reducible apply stFresh2); (focus rfl); (focus rfl))
                have r0 := (heap_alloc_lt (w := wq) (o := .cells (setA f) 39) (by omega : w.heap.size < wq.heap.size)).trans p0
                have r1 := (heap_alloc_lt (w := wq) (o := .cells (setA f) 39) (by omega : w.heap.size + 1 < wq.heap.size)).trans p1
                have r2 := (heap_alloc_lt (w := wq) (o := .cells (setA f) 39) hsz).trans p2
                have r3 : (wq.alloc (.cells (setA f) 39)).heap[wq.heap.size]? = some (.cells (setA f) 39 (0, 0)) := hq_eq rfl
                have hB3 := hB2.alloc (by omega : w.heap.size ≤ wq.heap.size) (.cells (setA f) 39)
                generalize hWQ : wq.alloc (.cells (setA f) 39) = wz at *
                clear hWQ p0 p1 p2 hB2
                go_loopw [15] (fun v wr => ∃ c : Nat, c ≤ 256 ∧ v = .int .i64 c ∧ wr.heap[w.heap.size]? = some (.cells (setA noS) 39 (0, 0)) ∧ wr.heap[w.heap.size + 1]? = some (.cells (setA (mixF (fun x => acc x || f x) acc c)) 39 (0, 0)) ∧ wr.heap[w.heap.size + 2]? = some (.cells (setA noS) 39 (0, 0)) ∧ wr.heap[wq.heap.size]? = some (.cells (setA f) 39 (0, 0)) ∧ Below w.heap.size w wr) (fun v _ => match v with | .int _ i => 256 - i.toNat | _ => 0)
                case atStart => exact ⟨0, by omega, rfl, r0, by rw [mix_start]; exact r1, r2, r3, hB3⟩
                case round =>
                  clear r0 r1 r2 r3 hB3
                  obtain ⟨c, hc, rfl, q0, q1, q2, q3, hB⟩ := hrel
                  rcases Nat.lt_or_ge c 256 with hlt | hge
                  · have hcell := set_cell q1 hlt
                    have hcell3 := set_cell q3 hlt
                    have hfr := free_of_heap q1 c
                    have hbl := lt_of_heap q1
                    have hbl3 := lt_of_heap q3
                    rw [mix_at _ _ _ hlt] at hcell
                    cases hac : acc (UInt8.ofNat c) with
                    | true =>
                      rw [hac] at hcell
                      go_wp2_with fail
                      all_goals
                        (go_roundw
                         case rel => exact ⟨c + 1, hlt, by simp, (hq_set (by simp)).trans q0, by rw [heap_setCell_at q1, mix_step _ _ _ hlt (by simp [hac])], (hq_set (by simp)).trans q2, (hq_set (by simp; omega)).trans q3, hB.setCell (by simp) _⟩
                         case measure => simp only [Int.toNat_natCast]; omega)
                    | false =>
                      rw [hac] at hcell
                      go_wp2_with fail
                      all_goals
                        (go_roundw
                         case rel => exact ⟨c + 1, hlt, by simp, (hq_set (by simp)).trans q0, by rw [heap_setCell_at q1, mix_step _ _ _ hlt (by simp [hac])], (hq_set (by simp)).trans q2, (hq_set (by simp; omega)).trans q3, hB.setCell (by simp) _⟩
                         case measure => simp only [Int.toNat_natCast]; omega)
                  · have hc2 : c = 256 := by omega
                    subst hc2
                    rw [mix_end] at q1
                    go_wp2_with fail
                    all_goals
                      (go_roundw
                       case rel => exact ⟨n, j, false, _, rfl, rfl, HH.out.symm, by omega, hj3.2, q0, q1, q2, hB⟩
                       case measure => simp only [Int.toNat_natCast]; omega)
    | false =>
      clear hle
      have hAt : RcRel w s G (.int .i64 ((k : Int) + 1)) (.bool true) W := ⟨s.size - k, k + 1, true, noS, by simp, rfl, HG.out, by omega, by omega, q0, q1, q2, hB⟩
      go_wp2_with fail
      go_loopw [9, 11] (fun v u wr => RcRel w s G v u wr) (fun v _ _ => match v with | .int _ i => s.size - i.toNat | _ => 0)
      case atStart => exact hAt
      case round =>
        clear hAt q0 q1 q2 hB
        obtain ⟨n, i, first, acc, rfl, rfl, hR, hn, hi, q0, q1, q2, hB⟩ := hrel
        obtain ⟨n, rfl⟩ : ∃ n', n = n' + 1 := ⟨n - 1, by omega⟩
        have HR := Lib.hid hR
        clear hR
        by_cases hstop : first = false ∧ ∃ h : i < s.size, (((s[i]'h).toNat : Int) != 93) = false
        · obtain ⟨rfl, hi1, h93⟩ := hstop
          have hpx : Lib.hasPrefix (s.data.toList.drop i) [93] = true := by
            rw [has_one, dif_pos hi1, beq_iff_eq]; exact bne_eq_false_iff_eq.1 h93
          have hGG : G = some (acc, s.data.toList.drop i) := HR.out.symm.trans (clsLoop_stop hpx)
          have hge : decide (s.size ≤ i) = false := decide_eq_false (by omega)
          have hXs : clsParse (s.data.toList.drop k) = some (fun c => acc c != false, (s.data.toList.drop i).drop 1) := by rw [HX.out, hGG]
          have HXS := Lib.hid hXs
          clear hXs hGG
          go_wp2_with fail
          go_loopw [16] (fun v wr => ∃ c : Nat, c ≤ 256 ∧ v = .int .i64 c ∧ wr.heap[w.heap.size]? = some (.cells (setA noS) 39 (0, 0)) ∧ wr.heap[w.heap.size + 1]? = some (.cells (setA (mixF (fun c => acc c != false) acc c)) 39 (0, 0)) ∧ Below w.heap.size w wr) (fun v _ => match v with | .int _ i => 256 - i.toNat | _ => 0)
          case atStart => exact ⟨0, by omega, rfl, q0, by rw [mix_start]; exact q1, hB⟩
          case round =>
            clear q0 q1 q2 hB
            obtain ⟨c, hc, rfl, q0, q1, hB⟩ := hrel
            rw [mix_same _ _ _ (fun c => by cases acc c <;> rfl)] at q1
            have hfe : acc = fun c => acc c != false := by funext c; cases acc c <;> rfl
            rw [hfe] at q1
            have hcd : c < 256 ∨ ¬ c < 256 := by omega
            clear hfe
            rcases hcd with hlt | hlt
            · go_wp2_with (first | ((with_reducible apply ldS256); (focus rfl); (first | assumption | (focus ((try simp (disch := (first | (simp only [sz_alloc, sz_set, sz_row, sz_drew, sz_drewN] <;> omega) | omega)) only [hq_eq, hq_ne, hq_set, hq_row, hq_drew, hq_drewN]) <;> (first | rfl | assumption))))) | ((with_reducible apply stS256); (focus rfl); (focus rfl); (first | assumption | (focus ((try simp (disch := (first | (simp only [sz_alloc, sz_set, sz_row, sz_drew, sz_drewN] <;> omega) | omega)) only [hq_eq, hq_ne, hq_set, hq_row, hq_drew, hq_drewN]) <;> (first | rfl | assumption))))))
              refine retSet rfl rfl rfl (setRow_heap _ _ _ _ _ _ q0) ?_
              rw [HXS.out]
              refine ⟨?_, below_setRow hB _ (Nat.le_refl _)⟩
              have hlq := bytes_len s
              have hn : (i : Int) + 1 = (s.size : Int) - (((s.data.toList.drop i).drop 1).length : Nat) := by rw [List.drop_drop, List.length_drop, ← hlq]; omega
              rw [← hn]
              exact congrArg (fun f => Ending.returned (Value.tuple #[.agg (setA f), .int .i64 ((i : Int) + 1), .int .i64 0])) (show _ = (fun c => acc c != false) from by funext c; cases acc c <;> rfl)
            · go_wp2_with (first | ((with_reducible apply ldS256); (focus rfl); (first | assumption | (focus ((try simp (disch := (first | (simp only [sz_alloc, sz_set, sz_row, sz_drew, sz_drewN] <;> omega) | omega)) only [hq_eq, hq_ne, hq_set, hq_row, hq_drew, hq_drewN]) <;> (first | rfl | assumption))))) | ((with_reducible apply stS256); (focus rfl); (focus rfl); (first | assumption | (focus ((try simp (disch := (first | (simp only [sz_alloc, sz_set, sz_row, sz_drew, sz_drewN] <;> omega) | omega)) only [hq_eq, hq_ne, hq_set, hq_row, hq_drew, hq_drewN]) <;> (first | rfl | assumption))))))
              refine retSet rfl rfl rfl (setRow_heap _ _ _ _ _ _ q0) ?_
              rw [HXS.out]
              refine ⟨?_, below_setRow hB _ (Nat.le_refl _)⟩
              have hlq := bytes_len s
              have hn : (i : Int) + 1 = (s.size : Int) - (((s.data.toList.drop i).drop 1).length : Nat) := by rw [List.drop_drop, List.length_drop, ← hlq]; omega
              rw [← hn]
              exact congrArg (fun f => Ending.returned (Value.tuple #[.agg (setA f), .int .i64 ((i : Int) + 1), .int .i64 0])) (show _ = (fun c => acc c != false) from by funext c; cases acc c <;> rfl)
        · have hgo : first = true ∨ Lib.hasPrefix (s.data.toList.drop i) [93] = false := by
            cases first with
            | true => exact .inl rfl
            | false =>
              refine .inr ?_
              rw [has_one]
              split
              · rename_i h
                rw [beq_eq_false_iff_ne]
                intro e
                exact hstop ⟨rfl, h, by rw [bne_eq_false_iff_eq]; exact e⟩
              · rfl
          have hr2 := HR.out.symm.trans (clsLoop_go hgo)
          have HR2 := Lib.hid hr2
          clear hr2
          cases first with
          | true =>
            clear hstop hgo
            go_wp2_with fail
            refine (rpart_any _ s i hl hi).mono ?_
            intro e wq hP
            have hr2 := HR2.out
            have hlq := bytes_len s
            cases hq : clsPart (s.data.toList.drop i) with
            | none =>
              rw [hq] at hP hr2
              obtain ⟨⟨f, m, rfl⟩, hB1⟩ := hP
              have hXn : clsParse (s.data.toList.drop k) = none := by rw [HX.out, hr2]
              have HXN := Lib.hid hXn
              have p0 := (hB1.block _ (lt_of_heap q0)).trans q0
              have p1 := (hB1.block _ (lt_of_heap q1)).trans q1
              have p2 := (hB1.block _ (lt_of_heap q2)).trans q2
              have hB2 := hB.trans (hB1.mono hB.size)
              have hsz := lt_of_heap p2
              clear hXn hr2 hq hlq
              go_wp2_with (first | ((with_reducible apply ldS256); (focus rfl); (first | assumption | (focus ((try simp (disch := (first | (simp only [sz_alloc, sz_set, sz_row, sz_drew, sz_drewN] <;> omega) | omega)) only [hq_eq, hq_ne, hq_set, hq_row, hq_drew, hq_drewN]) <;> (first | rfl | assumption))))) | ((with_reducible apply stFresh2); (focus rfl); (focus rfl)) | ((with_reducible apply stS256); (focus rfl); (focus rfl); (first | assumption | (focus ((try simp (disch := (first | (simp only [sz_alloc, sz_set, sz_row, sz_drew, sz_drewN] <;> omega) | omega)) only [hq_eq, hq_ne, hq_set, hq_row, hq_drew, hq_drewN]) <;> (first | rfl | assumption))))))
              refine retSet rfl rfl rfl (setRow_heap _ _ _ _ _ _ ((heap_alloc_lt (by omega)).trans p0)) ?_
              rw [HXN.out]
              exact ⟨⟨noS, rfl⟩, below_setRow (hB2.alloc (by omega) _) _ (Nat.le_refl _)⟩
            | some p =>
              obtain ⟨f, r0⟩ := p
              have hlt2 := clsPart_lt hq
              have hsuf := clsPart_suf hq
              rw [hq] at hP hr2
              obtain ⟨rfl, hB1⟩ := hP
              simp only at hr2
              rw [List.length_drop, ← hlq] at hlt2
              obtain ⟨j, hj, hj2, hj3⟩ : ∃ j : Nat, (s.size : Int) - (r0.length : Nat) = (j : Int) ∧ r0 = s.data.toList.drop j ∧ i < j ∧ j ≤ s.size := by
                refine ⟨s.size - r0.length, by omega, ?_, by omega, by omega⟩
                rw [hlq]
                exact List.suffix_iff_eq_drop.1 (hsuf.trans (List.drop_suffix _ _))
              rw [hj2] at hr2
              rw [hj]
              have HH := Lib.hid hr2
              have p0 := (hB1.block _ (lt_of_heap q0)).trans q0
              have p1 := (hB1.block _ (lt_of_heap q1)).trans q1
              have p2 := (hB1.block _ (lt_of_heap q2)).trans q2
              have hB2 := hB.trans (hB1.mono hB.size)
              have hsz := lt_of_heap p2
              clear hr2 hq hlt2 hlq hsuf hj hj2 q0 q1 q2 hB hB1
              go_wp2_with ((with_reducible apply stFresh2); (focus rfl); (focus rfl))
              have r0 := (heap_alloc_lt (w := wq) (o := .cells (setA f) 39) (by omega : w.heap.size < wq.heap.size)).trans p0
              have r1 := (heap_alloc_lt (w := wq) (o := .cells (setA f) 39) (by omega : w.heap.size + 1 < wq.heap.size)).trans p1
              have r2 := (heap_alloc_lt (w := wq) (o := .cells (setA f) 39) hsz).trans p2
              have r3 : (wq.alloc (.cells (setA f) 39)).heap[wq.heap.size]? = some (.cells (setA f) 39 (0, 0)) := hq_eq rfl
              have hB3 := hB2.alloc (by omega : w.heap.size ≤ wq.heap.size) (.cells (setA f) 39)
              generalize hWQ : wq.alloc (.cells (setA f) 39) = wz at *
              clear hWQ p0 p1 p2 hB2
              go_loopw [15] (fun v wr => ∃ c : Nat, c ≤ 256 ∧ v = .int .i64 c ∧ wr.heap[w.heap.size]? = some (.cells (setA noS) 39 (0, 0)) ∧ wr.heap[w.heap.size + 1]? = some (.cells (setA (mixF (fun x => acc x || f x) acc c)) 39 (0, 0)) ∧ wr.heap[w.heap.size + 2]? = some (.cells (setA noS) 39 (0, 0)) ∧ wr.heap[wq.heap.size]? = some (.cells (setA f) 39 (0, 0)) ∧ Below w.heap.size w wr) (fun v _ => match v with | .int _ i => 256 - i.toNat | _ => 0)
              case atStart => exact ⟨0, by omega, rfl, r0, by rw [mix_start]; exact r1, r2, r3, hB3⟩
              case round =>
                clear r0 r1 r2 r3 hB3
                obtain ⟨c, hc, rfl, q0, q1, q2, q3, hB⟩ := hrel
                rcases Nat.lt_or_ge c 256 with hlt | hge
                · have hcell := set_cell q1 hlt
                  have hcell3 := set_cell q3 hlt
                  have hfr := free_of_heap q1 c
                  have hbl := lt_of_heap q1
                  have hbl3 := lt_of_heap q3
                  rw [mix_at _ _ _ hlt] at hcell
                  cases hac : acc (UInt8.ofNat c) with
                  | true =>
                    rw [hac] at hcell
                    go_wp2_with fail
                    all_goals
                      (go_roundw
                       case rel => exact ⟨c + 1, hlt, by simp, (hq_set (by simp)).trans q0, by rw [heap_setCell_at q1, mix_step _ _ _ hlt (by simp [hac])], (hq_set (by simp)).trans q2, (hq_set (by simp; omega)).trans q3, hB.setCell (by simp) _⟩
                       case measure => simp only [Int.toNat_natCast]; omega)
                  | false =>
                    rw [hac] at hcell
                    go_wp2_with fail
                    all_goals
                      (go_roundw
                       case rel => exact ⟨c + 1, hlt, by simp, (hq_set (by simp)).trans q0, by rw [heap_setCell_at q1, mix_step _ _ _ hlt (by simp [hac])], (hq_set (by simp)).trans q2, (hq_set (by simp; omega)).trans q3, hB.setCell (by simp) _⟩
                       case measure => simp only [Int.toNat_natCast]; omega)
                · have hc2 : c = 256 := by omega
                  subst hc2
                  rw [mix_end] at q1
                  go_wp2_with fail
                  all_goals
                    (go_roundw
                     case rel => exact ⟨n, j, false, _, rfl, rfl, HH.out.symm, by omega, hj3.2, q0, q1, q2, hB⟩
                     case measure => simp only [Int.toNat_natCast]; omega)
          | false =>
            by_cases hi1 : i < s.size
            · have h93 : (((s[i]'hi1).toNat : Int) != 93) = true := by
                cases h : (((s[i]'hi1).toNat : Int) != 93) with
                | true => rfl
                | false => exact absurd ⟨rfl, hi1, h⟩ hstop
              have hge : decide (s.size ≤ i) = false := decide_eq_false (by omega)
              clear hstop hgo
              go_wp2_with fail
              refine (rpart_any _ s i hl hi).mono ?_
              intro e wq hP
              have hr2 := HR2.out
              have hlq := bytes_len s
              cases hq : clsPart (s.data.toList.drop i) with
              | none =>
                rw [hq] at hP hr2
                obtain ⟨⟨f, m, rfl⟩, hB1⟩ := hP
                have hXn : clsParse (s.data.toList.drop k) = none := by rw [HX.out, hr2]
                have HXN := Lib.hid hXn
                have p0 := (hB1.block _ (lt_of_heap q0)).trans q0
                have p1 := (hB1.block _ (lt_of_heap q1)).trans q1
                have p2 := (hB1.block _ (lt_of_heap q2)).trans q2
                have hB2 := hB.trans (hB1.mono hB.size)
                have hsz := lt_of_heap p2
                clear hXn hr2 hq hlq
                go_wp2_with (first | ((with_reducible apply ldS256); (focus rfl); (first | assumption | (focus ((try simp (disch := (first | (simp only [sz_alloc, sz_set, sz_row, sz_drew, sz_drewN] <;> omega) | omega)) only [hq_eq, hq_ne, hq_set, hq_row, hq_drew, hq_drewN]) <;> (first | rfl | assumption))))) | ((with_reducible apply stFresh2); (focus rfl); (focus rfl)) | ((with_reducible apply stS256); (focus rfl); (focus rfl); (first | assumption | (focus ((try simp (disch := (first | (simp only [sz_alloc, sz_set, sz_row, sz_drew, sz_drewN] <;> omega) | omega)) only [hq_eq, hq_ne, hq_set, hq_row, hq_drew, hq_drewN]) <;> (first | rfl | assumption))))))
                refine retSet rfl rfl rfl (setRow_heap _ _ _ _ _ _ ((heap_alloc_lt (by omega)).trans p0)) ?_
                rw [HXN.out]
                exact ⟨⟨noS, rfl⟩, below_setRow (hB2.alloc (by omega) _) _ (Nat.le_refl _)⟩
              | some p =>
                obtain ⟨f, r0⟩ := p
                have hlt2 := clsPart_lt hq
                have hsuf := clsPart_suf hq
                rw [hq] at hP hr2
                obtain ⟨rfl, hB1⟩ := hP
                simp only at hr2
                rw [List.length_drop, ← hlq] at hlt2
                obtain ⟨j, hj, hj2, hj3⟩ : ∃ j : Nat, (s.size : Int) - (r0.length : Nat) = (j : Int) ∧ r0 = s.data.toList.drop j ∧ i < j ∧ j ≤ s.size := by
                  refine ⟨s.size - r0.length, by omega, ?_, by omega, by omega⟩
                  rw [hlq]
                  exact List.suffix_iff_eq_drop.1 (hsuf.trans (List.drop_suffix _ _))
                rw [hj2] at hr2
                rw [hj]
                have HH := Lib.hid hr2
                have p0 := (hB1.block _ (lt_of_heap q0)).trans q0
                have p1 := (hB1.block _ (lt_of_heap q1)).trans q1
                have p2 := (hB1.block _ (lt_of_heap q2)).trans q2
                have hB2 := hB.trans (hB1.mono hB.size)
                have hsz := lt_of_heap p2
                clear hr2 hq hlt2 hlq hsuf hj hj2 q0 q1 q2 hB hB1
                go_wp2_with ((with_reducible apply stFresh2); (focus rfl); (focus rfl))
                have r0 := (heap_alloc_lt (w := wq) (o := .cells (setA f) 39) (by omega : w.heap.size < wq.heap.size)).trans p0
                have r1 := (heap_alloc_lt (w := wq) (o := .cells (setA f) 39) (by omega : w.heap.size + 1 < wq.heap.size)).trans p1
                have r2 := (heap_alloc_lt (w := wq) (o := .cells (setA f) 39) hsz).trans p2
                have r3 : (wq.alloc (.cells (setA f) 39)).heap[wq.heap.size]? = some (.cells (setA f) 39 (0, 0)) := hq_eq rfl
                have hB3 := hB2.alloc (by omega : w.heap.size ≤ wq.heap.size) (.cells (setA f) 39)
                generalize hWQ : wq.alloc (.cells (setA f) 39) = wz at *
                clear hWQ p0 p1 p2 hB2
                go_loopw [15] (fun v wr => ∃ c : Nat, c ≤ 256 ∧ v = .int .i64 c ∧ wr.heap[w.heap.size]? = some (.cells (setA noS) 39 (0, 0)) ∧ wr.heap[w.heap.size + 1]? = some (.cells (setA (mixF (fun x => acc x || f x) acc c)) 39 (0, 0)) ∧ wr.heap[w.heap.size + 2]? = some (.cells (setA noS) 39 (0, 0)) ∧ wr.heap[wq.heap.size]? = some (.cells (setA f) 39 (0, 0)) ∧ Below w.heap.size w wr) (fun v _ => match v with | .int _ i => 256 - i.toNat | _ => 0)
                case atStart => exact ⟨0, by omega, rfl, r0, by rw [mix_start]; exact r1, r2, r3, hB3⟩
                case round =>
                  clear r0 r1 r2 r3 hB3
                  obtain ⟨c, hc, rfl, q0, q1, q2, q3, hB⟩ := hrel
                  rcases Nat.lt_or_ge c 256 with hlt | hge
                  · have hcell := set_cell q1 hlt
                    have hcell3 := set_cell q3 hlt
                    have hfr := free_of_heap q1 c
                    have hbl := lt_of_heap q1
                    have hbl3 := lt_of_heap q3
                    rw [mix_at _ _ _ hlt] at hcell
                    cases hac : acc (UInt8.ofNat c) with
                    | true =>
                      rw [hac] at hcell
                      go_wp2_with fail
                      all_goals
                        (go_roundw
                         case rel => exact ⟨c + 1, hlt, by simp, (hq_set (by simp)).trans q0, by rw [heap_setCell_at q1, mix_step _ _ _ hlt (by simp [hac])], (hq_set (by simp)).trans q2, (hq_set (by simp; omega)).trans q3, hB.setCell (by simp) _⟩
                         case measure => simp only [Int.toNat_natCast]; omega)
                    | false =>
                      rw [hac] at hcell
                      go_wp2_with fail
                      all_goals
                        (go_roundw
                         case rel => exact ⟨c + 1, hlt, by simp, (hq_set (by simp)).trans q0, by rw [heap_setCell_at q1, mix_step _ _ _ hlt (by simp [hac])], (hq_set (by simp)).trans q2, (hq_set (by simp; omega)).trans q3, hB.setCell (by simp) _⟩
                         case measure => simp only [Int.toNat_natCast]; omega)
                  · have hc2 : c = 256 := by omega
                    subst hc2
                    rw [mix_end] at q1
                    go_wp2_with fail
                    all_goals
                      (go_roundw
                       case rel => exact ⟨n, j, false, _, rfl, rfl, HH.out.symm, by omega, hj3.2, q0, q1, q2, hB⟩
                       case measure => simp only [Int.toNat_natCast]; omega)
            · have hge : decide (s.size ≤ i) = true := decide_eq_true (by omega)
              clear hstop hgo
              go_wp2_with fail
              refine (rpart_any _ s i hl hi).mono ?_
              intro e wq hP
              have hr2 := HR2.out
              have hlq := bytes_len s
              cases hq : clsPart (s.data.toList.drop i) with
              | none =>
                rw [hq] at hP hr2
                obtain ⟨⟨f, m, rfl⟩, hB1⟩ := hP
                have hXn : clsParse (s.data.toList.drop k) = none := by rw [HX.out, hr2]
                have HXN := Lib.hid hXn
                have p0 := (hB1.block _ (lt_of_heap q0)).trans q0
                have p1 := (hB1.block _ (lt_of_heap q1)).trans q1
                have p2 := (hB1.block _ (lt_of_heap q2)).trans q2
                have hB2 := hB.trans (hB1.mono hB.size)
                have hsz := lt_of_heap p2
                clear hXn hr2 hq hlq
                go_wp2_with (first | ((with_reducible apply ldS256); (focus rfl); (first | assumption | (focus ((try simp (disch := (first | (simp only [sz_alloc, sz_set, sz_row, sz_drew, sz_drewN] <;> omega) | omega)) only [hq_eq, hq_ne, hq_set, hq_row, hq_drew, hq_drewN]) <;> (first | rfl | assumption))))) | ((with_reducible apply stFresh2); (focus rfl); (focus rfl)) | ((with_reducible apply stS256); (focus rfl); (focus rfl); (first | assumption | (focus ((try simp (disch := (first | (simp only [sz_alloc, sz_set, sz_row, sz_drew, sz_drewN] <;> omega) | omega)) only [hq_eq, hq_ne, hq_set, hq_row, hq_drew, hq_drewN]) <;> (first | rfl | assumption))))))
                refine retSet rfl rfl rfl (setRow_heap _ _ _ _ _ _ ((heap_alloc_lt (by omega)).trans p0)) ?_
                rw [HXN.out]
                exact ⟨⟨noS, rfl⟩, below_setRow (hB2.alloc (by omega) _) _ (Nat.le_refl _)⟩
              | some p =>
                obtain ⟨f, r0⟩ := p
                have hlt2 := clsPart_lt hq
                have hsuf := clsPart_suf hq
                rw [hq] at hP hr2
                obtain ⟨rfl, hB1⟩ := hP
                simp only at hr2
                rw [List.length_drop, ← hlq] at hlt2
                obtain ⟨j, hj, hj2, hj3⟩ : ∃ j : Nat, (s.size : Int) - (r0.length : Nat) = (j : Int) ∧ r0 = s.data.toList.drop j ∧ i < j ∧ j ≤ s.size := by
                  refine ⟨s.size - r0.length, by omega, ?_, by omega, by omega⟩
                  rw [hlq]
                  exact List.suffix_iff_eq_drop.1 (hsuf.trans (List.drop_suffix _ _))
                rw [hj2] at hr2
                rw [hj]
                have HH := Lib.hid hr2
                have p0 := (hB1.block _ (lt_of_heap q0)).trans q0
                have p1 := (hB1.block _ (lt_of_heap q1)).trans q1
                have p2 := (hB1.block _ (lt_of_heap q2)).trans q2
                have hB2 := hB.trans (hB1.mono hB.size)
                have hsz := lt_of_heap p2
                clear hr2 hq hlt2 hlq hsuf hj hj2 q0 q1 q2 hB hB1
                go_wp2_with ((with_reducible apply stFresh2); (focus rfl); (focus rfl))
                have r0 := (heap_alloc_lt (w := wq) (o := .cells (setA f) 39) (by omega : w.heap.size < wq.heap.size)).trans p0
                have r1 := (heap_alloc_lt (w := wq) (o := .cells (setA f) 39) (by omega : w.heap.size + 1 < wq.heap.size)).trans p1
                have r2 := (heap_alloc_lt (w := wq) (o := .cells (setA f) 39) hsz).trans p2
                have r3 : (wq.alloc (.cells (setA f) 39)).heap[wq.heap.size]? = some (.cells (setA f) 39 (0, 0)) := hq_eq rfl
                have hB3 := hB2.alloc (by omega : w.heap.size ≤ wq.heap.size) (.cells (setA f) 39)
                generalize hWQ : wq.alloc (.cells (setA f) 39) = wz at *
                clear hWQ p0 p1 p2 hB2
                go_loopw [15] (fun v wr => ∃ c : Nat, c ≤ 256 ∧ v = .int .i64 c ∧ wr.heap[w.heap.size]? = some (.cells (setA noS) 39 (0, 0)) ∧ wr.heap[w.heap.size + 1]? = some (.cells (setA (mixF (fun x => acc x || f x) acc c)) 39 (0, 0)) ∧ wr.heap[w.heap.size + 2]? = some (.cells (setA noS) 39 (0, 0)) ∧ wr.heap[wq.heap.size]? = some (.cells (setA f) 39 (0, 0)) ∧ Below w.heap.size w wr) (fun v _ => match v with | .int _ i => 256 - i.toNat | _ => 0)
                case atStart => exact ⟨0, by omega, rfl, r0, by rw [mix_start]; exact r1, r2, r3, hB3⟩
                case round =>
                  clear r0 r1 r2 r3 hB3
                  obtain ⟨c, hc, rfl, q0, q1, q2, q3, hB⟩ := hrel
                  rcases Nat.lt_or_ge c 256 with hlt | hge
                  · have hcell := set_cell q1 hlt
                    have hcell3 := set_cell q3 hlt
                    have hfr := free_of_heap q1 c
                    have hbl := lt_of_heap q1
                    have hbl3 := lt_of_heap q3
                    rw [mix_at _ _ _ hlt] at hcell
                    cases hac : acc (UInt8.ofNat c) with
                    | true =>
                      rw [hac] at hcell
                      go_wp2_with fail
                      all_goals
                        (go_roundw
                         case rel => exact ⟨c + 1, hlt, by simp, (hq_set (by simp)).trans q0, by rw [heap_setCell_at q1, mix_step _ _ _ hlt (by simp [hac])], (hq_set (by simp)).trans q2, (hq_set (by simp; omega)).trans q3, hB.setCell (by simp) _⟩
                         case measure => simp only [Int.toNat_natCast]; omega)
                    | false =>
                      rw [hac] at hcell
                      go_wp2_with fail
                      all_goals
                        (go_roundw
                         case rel => exact ⟨c + 1, hlt, by simp, (hq_set (by simp)).trans q0, by rw [heap_setCell_at q1, mix_step _ _ _ hlt (by simp [hac])], (hq_set (by simp)).trans q2, (hq_set (by simp; omega)).trans q3, hB.setCell (by simp) _⟩
                         case measure => simp only [Int.toNat_natCast]; omega)
                  · have hc2 : c = 256 := by omega
                    subst hc2
                    rw [mix_end] at q1
                    go_wp2_with fail
                    all_goals
                      (go_roundw
                       case rel => exact ⟨n, j, false, _, rfl, rfl, HH.out.symm, by omega, hj3.2, q0, q1, q2, hB⟩
                       case measure => simp only [Int.toNat_natCast]; omega)
end Go.Proofs.YtkbfckigndkkkaaDoor
