/-
  What classes.Parse's walk needs.
-/
import Derived.Test.YtkbfckigndkkkaaDoorCls4
import Derived.Test.YtkbfckigndkkkaaDoorCls5
import Derived.Test.YtkbfckigndkkkaaDoorCls9
namespace Go.Proofs.YtkbfckigndkkkaaDoor
set_option linter.unusedSimpArgs false
set_option linter.unusedVariables false
open Go Go.RowKit

theorem setA_noS : setA noS = Array.replicate 256 (.bool false) := by
  apply Array.ext_getElem?
  intro j
  have e : ∀ h : UInt8 → Bool, (setA h)[j]? = (setL h)[j]? := fun h => by simp [setA]
  rw [e]
  rcases Nat.lt_or_ge j 256 with h | h
  · rw [setL_get _ j h]; simp [h, noS]
  · rw [List.getElem?_eq_none (by rw [setL_length]; exact h), Array.getElem?_eq_none (by simp; exact h)]
theorem infoS256 : (Tryd.prog.info? 39).map (·.size) = some 256 := by kernel_rfl
theorem zeroSet : Tryd.zeroCells39 = setA noS := by rw [setA_noS]; kernel_rfl
theorem buildSet (w : World) : (Instr.build 39 #[]).run Tryd.prog w = .ok (.agg (setA noS)) w := by rw [setA_noS]; kernel_rfl
section
variable {ops : Array Oper} {rest : List Oper} {dst : Option Tmp} {ty : TypeId} {pos : String} {after : Array Edge} {a : Act} {w : World} {Q : Exit → Act → World → Prop}
theorem ldS256 {x : Operand} {g : Nat} {f : UInt8 → Bool} {t : TypeId} {fr : Nat × Nat} (hx : a.eval x = .pointer (some ⟨g, 0, none⟩)) (hg : w.heap[g]? = some (.cells (setA f) t fr))
    (h : wpList Tryd.prog ops Q rest (a.put dst (.agg (setA f))) w) : wpList Tryd.prog ops Q (⟨dst, .load 39 x, ty, pos, after, none⟩ :: rest) a w :=
  ldRow Tryd.underlying39 rfl infoS256 hx hg (setA_size _) h
theorem stS256 {x y : Operand} {g : Nat} {f old : UInt8 → Bool} {t : TypeId} (hx : a.eval x = .pointer (some ⟨g, 0, none⟩)) (hy : a.eval y = .agg (setA f)) (hg : w.heap[g]? = some (.cells (setA old) t (0, 0)))
    (h : wpList Tryd.prog ops Q rest a (w.setRow g (setA f))) : wpList Tryd.prog ops Q (⟨none, .store 39 x y, ty, pos, after, none⟩ :: rest) a w :=
  stRow infoS256 hx hy hg (setA_size _) (setA_size _) (setA_one _) h
theorem stZero {x y : Operand} {g : Nat} {old : UInt8 → Bool} {t : TypeId} (hx : a.eval x = .pointer (some ⟨g, 0, none⟩)) (hy : a.eval y = .agg Tryd.zeroCells39) (hg : w.heap[g]? = some (.cells (setA old) t (0, 0)))
    (h : wpList Tryd.prog ops Q rest a (w.setRow g (setA noS))) : wpList Tryd.prog ops Q (⟨none, .store 39 x y, ty, pos, after, none⟩ :: rest) a w :=
  stS256 hx (hy.trans (by rw [zeroSet])) hg h
theorem results_set {fn : Func} {p u v : Tmp} (hf : fn.results = #[.cell p 39, .tmp u, .tmp v]) (tmps : Array Value) (w : World) (g : Nat) (t : TypeId) (f : UInt8 → Bool) (fr : Nat × Nat)
    (hp : tmps.getD p undef = .pointer (some ⟨g, 0, none⟩)) (hg : w.heap[g]? = some (.cells (setA f) t fr)) :
    (results fn tmps).run Tryd.prog w = .ok (.tuple #[.agg (setA f), tmps.getD u undef, tmps.getD v undef]) w := by
  have hp' : tmps[p]?.getD undef = .pointer (some ⟨g, 0, none⟩) := by simpa using hp
  simp [results, hf, hp', asAddr, run_loadVar_row w g t 39 (setA f) fr _ hg Tryd.underlying39 rfl (by rw [infoS256, setA_size])]
theorem retSet {fn : Func} {R : Ending → World → Prop} {p u v : Tmp} {g : Nat} {f : UInt8 → Bool} {t : TypeId} {fr : Nat × Nat} (hf : fn.results = #[.cell p 39, .tmp u, .tmp v]) (hd : a.defers = [])
    (hp : a.tmps.getD p undef = .pointer (some ⟨g, 0, none⟩)) (hg : w.heap[g]? = some (.cells (setA f) t fr)) (hR : R (.returned (.tuple #[.agg (setA f), a.tmps.getD u undef, a.tmps.getD v undef])) w) : bodyPost Tryd.prog fn R .ret a w :=
  bodyPost_ret (results_set hf a.tmps w g t f fr hp hg) hd hR
end
theorem clsPart_lt {s : List UInt8} {f : UInt8 → Bool} {r : List UInt8} (hp : clsPart s = some (f, r)) : r.length < s.length := by
  unfold clsPart at hp
  split at hp
  · cases hp
  · rename_i a t
    split at hp
    · split at hp
      · cases hp
      · rename_i nm rs hc
        have := cutCol_len _ _ _ hc
        cases hcl : clsOf nm with
        | none => rw [hcl] at hp; cases hp
        | some f0 =>
          rw [hcl] at hp
          cases hp
          simp only [List.length_drop, List.length_cons] at this ⊢; omega
    · split at hp
      · cases hp
      · split at hp
        · split at hp
          · split at hp
            · cases hp; simp; omega
            · cases hp
          · cases hp; simp
        · cases hp; simp
/-- The first loop of Parse. -/
structure ClsRel (w : World) (b : Nat) (G : Option ((UInt8 → Bool) × List UInt8)) (v u : Value) (wr : World) : Prop where
  ex : ∃ (n : Nat) (rs : ByteArray) (first : Bool) (acc : UInt8 → Bool), v = .string rs ∧ u = .bool first ∧ clsLoop n rs.data.toList first acc = G ∧ rs.size < n ∧ rs.size ≤ 1000 ∧ wr.heap[b]? = some (.cells (setA acc) 39 (0, 0)) ∧ Below b w wr ∧ b < wr.heap.size
/-- The second one. -/
def flipF (g : UInt8 → Bool) (nt : Bool) (i : Nat) : UInt8 → Bool := fun c => if c.toNat < i then g c != nt else g c
theorem flip_step (g : UInt8 → Bool) (nt : Bool) (i : Nat) (hlt : i < 256) : (setA (flipF g nt i)).setIfInBounds i (.bool (flipF g nt i (UInt8.ofNat i) != nt)) = setA (flipF g nt (i + 1)) := by
  have hto : (UInt8.ofNat i).toNat = i := by simp; omega
  apply Array.ext_getElem?
  intro j
  rw [Array.getElem?_setIfInBounds]
  have e : ∀ h : UInt8 → Bool, (setA h)[j]? = (setL h)[j]? := fun h => by simp [setA]
  by_cases hj : i = j
  · subst hj
    rw [if_pos rfl, if_pos (by simp; exact hlt), e, setL_get _ i hlt]
    simp only [flipF, hto, if_neg (Nat.lt_irrefl i), if_pos (Nat.lt_succ_self i)]
  · rw [if_neg hj, e, e]
    rcases Nat.lt_or_ge j 256 with h | h
    · rw [setL_get _ j h, setL_get _ j h]
      have hjt : (UInt8.ofNat j).toNat = j := by simp; omega
      congr 2
      simp only [flipF, hjt]
      by_cases h1 : j < i
      · rw [if_pos h1, if_pos (by omega)]
      · rw [if_neg h1, if_neg (by omega)]
    · rw [List.getElem?_eq_none (by rw [setL_length]; exact h), List.getElem?_eq_none (by rw [setL_length]; exact h)]
theorem below_setRow {B g : Nat} {w w1 : World} (h : Below B w w1) (cs : Array Value) (hg : B ≤ g) : Below B w (w1.setRow g cs) :=
  ⟨h.os, h.tape, h.output, by rw [sz_row]; exact h.size, fun k hk => (hq_row (by omega)).trans (h.block k hk)⟩
theorem below_atB {b : Nat} {w w' : World} (hU : Upd (atB b) w w') (hb : b ≤ w.heap.size) : Below b w w' :=
  ⟨hU.os, hU.tape, hU.output, hU.size, fun k hk => hU.block k (by omega) (by simp only [atB]; omega)⟩
theorem flip_end (g : UInt8 → Bool) (nt : Bool) : flipF g nt 256 = fun c => g c != nt := by
  funext c
  have : c.toNat < 256 := c.toNat_lt
  simp [flipF, this]
theorem flip_start (g : UInt8 → Bool) (nt : Bool) : flipF g nt 0 = g := by
  funext c
  simp [flipF]
/-- What Parse leaves. -/
def ClsOut (w : World) (n : Int) : Option ((UInt8 → Bool) × List UInt8) → Ending → World → Prop
  | none, e, w' => (∃ f, e = .returned (.tuple #[.agg (setA f), .int .i64 0, .int .i64 90])) ∧ Below w.heap.size w w'
  | some (f, rest), e, w' => e = .returned (.tuple #[.agg (setA f), .int .i64 (n - rest.length), .int .i64 0]) ∧ Below w.heap.size w w'
def strLen : Value → Nat | .string s => s.size | _ => 0
theorem clsParse_pre {l : List UInt8} (h : Lib.hasPrefix l [91] = true) : clsParse l = match clsLoop (l.length) (Lib.trimPrefix (Lib.trimPrefix l [91]) [94]) true noS with
    | none => none
    | some (f, rest) => some (fun c => f c != Lib.hasPrefix (Lib.trimPrefix l [91]) [94], rest.drop 1) := by
  obtain ⟨t, rfl⟩ : ∃ t, l = 91 :: t := by
    rcases l with _ | ⟨a, t⟩
    · simp [Lib.hasPrefix] at h
    · simp [Lib.hasPrefix] at h
      exact ⟨t, by rw [← h]⟩
  rw [trimPrefix_yes h]
  rfl
theorem clsParse_no {l : List UInt8} (h : Lib.hasPrefix l [91] = false) : clsParse l = none := by
  rcases l with _ | ⟨a, t⟩
  · rfl
  · unfold clsParse
    split
    · rename_i t' heq
      cases heq
      simp [Lib.hasPrefix] at h
    · rfl
theorem clsLoop_stop {n : Nat} {s : List UInt8} {acc : UInt8 → Bool} (h : Lib.hasPrefix s [93] = true) : clsLoop (n + 1) s false acc = some (acc, s) := by
  unfold clsLoop
  rw [if_pos (by rw [h]; rfl)]
theorem clsLoop_go {n : Nat} {s : List UInt8} {first : Bool} {acc : UInt8 → Bool} (h : first = true ∨ Lib.hasPrefix s [93] = false) :
    clsLoop (n + 1) s first acc = match clsPart s with | none => none | some (f, rest) => clsLoop n rest false fun c => acc c || f c := by
  conv => lhs; unfold clsLoop
  rw [if_neg (by rcases h with h | h <;> rw [h] <;> simp)]
  cases clsPart s <;> rfl
end Go.Proofs.YtkbfckigndkkkaaDoor

/-
  Walk: classes.Parse.
-/
namespace Go.Proofs.YtkbfckigndkkkaaDoor
open Go Go.RowKit

set_option maxRecDepth 100000 in set_option maxHeartbeats 4000000 in
theorem cls_walk (w : World) (s : ByteArray) (hE : Env w) (h4 : 4 ≤ w.heap.size) (hl : s.size ≤ 1000) :
    Calls Tryd.prog 26 #[.string s, .int .i64 0] w (ClsOut w s.size (clsParse s.data.toList)) := by
  have hbs := buildSet
  have hq0 : (w.alloc (.cells (setA noS) 39)).heap[w.heap.size]? = some (.cells (setA noS) 39 (0, 0)) := hq_eq rfl
  have hB0 : Below w.heap.size w (w.alloc (.cells (setA noS) 39)) := (Below.refl _ _).alloc (Nat.le_refl _) _
  by_cases he : s = ByteArray.empty
  · subst he
    have hX : clsParse ByteArray.empty.data.toList = none := rfl
    rw [hX]
    go_enter Tryd.func26, Tryd.ntmps26
    go_wp2_with (first | ((with_reducible apply ldS256); (focus rfl); (first | assumption | (focus ((try simp (disch := (first | (simp only [sz_alloc, sz_set, sz_row, sz_drew, sz_drewN] <;> omega) | omega)) only [hq_eq, hq_ne, hq_set, hq_row, hq_drew, hq_drewN]) <;> (first | rfl | assumption))))) | ((with_reducible apply stS256); (focus rfl); (focus rfl); (first | assumption | (focus ((try simp (disch := (first | (simp only [sz_alloc, sz_set, sz_row, sz_drew, sz_drewN] <;> omega) | omega)) only [hq_eq, hq_ne, hq_set, hq_row, hq_drew, hq_drewN]) <;> (first | rfl | assumption))))))
    all_goals (try rw [zeroSet])
    refine retSet rfl rfl rfl (setRow_heap _ _ _ _ _ _ hq0) ⟨⟨noS, rfl⟩, ?_⟩
    exact below_setRow hB0 _ (Nat.le_refl _)
  have hde : decide (s = ByteArray.empty) = false := decide_eq_false he
  cases hpre : Lib.hasPrefix s.data.toList [91] with
  | false =>
    have hX := clsParse_no hpre
    rw [hX]
    go_enter Tryd.func26, Tryd.ntmps26
    go_wp2_with (first | (go_at_call 37; rw [zeroSet]; refine (Tryd.strings_CutPrefix _ _ _).mono ?_; rintro e w1 ⟨rfl, rfl⟩; rw [show (⟨#[91]⟩ : ByteArray).data.toList = [91] from rfl, hpre]) | ((with_reducible apply ldS256); (focus rfl); (first | assumption | (focus ((try simp (disch := (first | (simp only [sz_alloc, sz_set, sz_row, sz_drew, sz_drewN] <;> omega) | omega)) only [hq_eq, hq_ne, hq_set, hq_row, hq_drew, hq_drewN]) <;> (first | rfl | assumption))))) | ((with_reducible apply stS256); (focus rfl); (focus rfl); (first | assumption | (focus ((try simp (disch := (first | (simp only [sz_alloc, sz_set, sz_row, sz_drew, sz_drewN] <;> omega) | omega)) only [hq_eq, hq_ne, hq_set, hq_row, hq_drew, hq_drewN]) <;> (first | rfl | assumption))))))
    refine retSet rfl rfl rfl (setRow_heap _ _ _ _ _ _ hq0) ⟨⟨noS, rfl⟩, ?_⟩
    exact below_setRow hB0 _ (Nat.le_refl _)
  | true =>
    have hX := clsParse_pre hpre
    generalize hR1 : Lib.trimPrefix s.data.toList [91] = r1 at hX
    generalize hnt : Lib.hasPrefix r1 [94] = nt at hX
    generalize hR2 : Lib.trimPrefix r1 [94] = r2 at hX
    have HX := Lib.hid hX
    clear hX
    have hlen : r2.length + 1 ≤ s.data.toList.length := by
      have h1 := hasPrefix_len hpre
      have h2 : r1.length = s.data.toList.length - 1 := by rw [← hR1, trimPrefix_yes hpre, List.length_drop]; rfl
      have h3 : r2.length ≤ r1.length := by rw [← hR2]; unfold Lib.trimPrefix; split <;> simp
      simp only [List.length_singleton] at h1
      omega
    have hsl : s.size = s.data.toList.length := bytes_len s
    have hS2 : (⟨r2.toArray⟩ : ByteArray).data.toList = r2 := by simp
    have hZ2 : (⟨r2.toArray⟩ : ByteArray).size = r2.length := by rw [bytes_len, hS2]
    have hRel : ∀ G, clsLoop s.data.toList.length r2 true noS = G → ClsRel w w.heap.size G (.string ⟨r2.toArray⟩) (.bool true) (w.alloc (.cells (setA noS) 39)) := fun G hG =>
      ⟨s.data.toList.length, ⟨r2.toArray⟩, true, noS, rfl, rfl, by rw [hS2]; exact hG, by omega, by omega, hq0, hB0, by rw [sz_alloc]; omega⟩
    have HRel := Lib.hid hRel
    clear hRel hS2 hZ2 hsl
    have HL := Lib.hid hlen
    clear hlen
    go_enter Tryd.func26, Tryd.ntmps26
    go_wp2_with fail
    rw [zeroSet]
    refine (Tryd.strings_CutPrefix _ _ _).mono ?_
    rintro e w1 ⟨rfl, rfl⟩
    rw [show (⟨#[91]⟩ : ByteArray).data.toList = [91] from rfl, hpre, hR1]
    go_wp2_with fail
    refine (Tryd.strings_CutPrefix _ _ _).mono ?_
    rintro e w1 ⟨rfl, rfl⟩
    rw [show (⟨#[94]⟩ : ByteArray).data.toList = [94] from rfl, show (⟨r1.toArray⟩ : ByteArray).data.toList = r1 by simp, hnt, hR2]
    go_wp2_with fail
    have hRel := HRel.out
    have hX := HX.out
    clear HRel HX
    obtain ⟨G, hG⟩ : ∃ G, clsLoop s.data.toList.length r2 true noS = G := ⟨_, rfl⟩
    rw [hG] at hX
    have hAt := hRel G hG
    have HX := Lib.hid hX
    clear hRel hX
    have HG := Lib.hid hG
    clear hG
    go_loopw [7, 10] (fun v u wr => ClsRel w w.heap.size G v u wr) (fun v _ _ => strLen v)
    case atStart => exact hAt
    case round =>
      clear hAt hR1 hR2 hnt hpre hq0 hB0
      obtain ⟨n, rs, first, acc, rfl, rfl, hR, hn, hz, hb, hB, hlt⟩ := hrel
      obtain ⟨n, rfl⟩ : ∃ n', n = n' + 1 := ⟨n - 1, by omega⟩
      have HR := Lib.hid hR
      clear hR
      by_cases hstop : first = false ∧ Lib.hasPrefix rs.data.toList [93] = true
      · obtain ⟨rfl, hpx⟩ := hstop
        have hGG : G = some (acc, rs.data.toList) := HR.out.symm.trans (clsLoop_stop hpx)
        go_wp2_with (go_at_call 17; refine (Tryd.strings_HasPrefix _ _ _).mono ?_; rintro e w1 ⟨rfl, rfl⟩; rw [show (⟨#[93]⟩ : ByteArray).data.toList = [93] from rfl, hpx])
        have hXs : clsParse s.data.toList = some (fun c => acc c != nt, rs.data.toList.drop 1) := by rw [HX.out, hGG]
        have HXS := Lib.hid hXs
        have hrl := hasPrefix_len hpx
        have HRL := Lib.hid hrl
        clear hXs hrl hGG
        go_loopw [57] (fun v wq => ∃ i : Nat, i ≤ 256 ∧ v = .int .i64 i ∧ wq.heap[w.heap.size]? = some (.cells (setA (flipF acc nt i)) 39 (0, 0)) ∧ Below w.heap.size w wq) (fun v _ => match v with | .int _ i => 256 - i.toNat | _ => 0)
        case atStart => exact ⟨0, by omega, rfl, by rw [flip_start]; exact hb, hB⟩
        case round =>
          clear hb hB hlt
          obtain ⟨i, hi, rfl, hbr, hB⟩ := hrel
          rcases Nat.lt_or_ge i 256 with hlt | hge
          · have hcell : wr.cell? ⟨w.heap.size, i, none⟩ = some (.bool (flipF acc nt i (UInt8.ofNat i))) := by
              rw [cell_of_heap hbr]; simp [setA, setL_get _ i hlt]
            have hfr := free_of_heap hbr i
            have hbl := lt_of_heap hbr
            go_wp2_with fail
            go_roundw
            case rel => exact ⟨i + 1, hlt, by simp, by rw [← flip_step _ _ _ hlt]; exact heap_setCell_at hbr i _, hB.setCell (Nat.le_refl _) _⟩
            case measure => simp only [Int.toNat_natCast]; omega
          · have hi2 : i = 256 := by omega
            subst hi2
            rw [flip_end] at hbr
            go_wp2_with (first | ((with_reducible apply ldS256); (focus rfl); (first | assumption | (focus ((try simp (disch := (first | (simp only [sz_alloc, sz_set, sz_row, sz_drew, sz_drewN] <;> omega) | omega)) only [hq_eq, hq_ne, hq_set, hq_row, hq_drew, hq_drewN]) <;> (first | rfl | assumption))))) | ((with_reducible apply stS256); (focus rfl); (focus rfl); (first | assumption | (focus ((try simp (disch := (first | (simp only [sz_alloc, sz_set, sz_row, sz_drew, sz_drewN] <;> omega) | omega)) only [hq_eq, hq_ne, hq_set, hq_row, hq_drew, hq_drewN]) <;> (first | rfl | assumption))))))
            refine retSet rfl rfl rfl (setRow_heap _ _ _ _ _ _ hbr) ?_
            rw [HXS.out]
            refine ⟨?_, below_setRow hB _ (Nat.le_refl _)⟩
            have h1 := HRL.out
            have h2 : rs.size = rs.data.toList.length := bytes_len rs
            simp only [List.length_singleton] at h1
            have hn : (s.size : Int) - rs.size + 1 = s.size - ((rs.data.toList.drop 1).length : Nat) := by rw [List.length_drop]; omega
            rw [← hn]
            rfl
      · have hgo : first = true ∨ Lib.hasPrefix rs.data.toList [93] = false := by
          cases first with
          | true => exact .inl rfl
          | false =>
            refine .inr ?_
            cases h : Lib.hasPrefix rs.data.toList [93] with
            | false => rfl
            | true => exact absurd ⟨rfl, h⟩ hstop
        have hr2 := HR.out.symm.trans (clsLoop_go hgo)
        have HR2 := Lib.hid hr2
        clear hr2 hstop
        cases first with
        | true =>
          go_wp2_with fail
          refine (cpart_any named_any _ rs (hE.below hB h4) (Nat.le_trans h4 hB.size) hz).mono ?_
          intro e wq hP
          have hr2 := HR2.out
          cases hq : clsPart rs.data.toList with
          | none =>
            rw [hq] at hP hr2
            obtain ⟨⟨v, r, rfl⟩, hB1⟩ := hP
            have hXn : clsParse s.data.toList = none := by rw [HX.out, hr2]
            have HXN := Lib.hid hXn
            have hb1 := (hB1.block _ hlt).trans hb
            clear hXn hr2 hq
            go_wp2_with (first | ((with_reducible apply ldS256); (focus rfl); (first | assumption | (focus ((try simp (disch := (first | (simp only [sz_alloc, sz_set, sz_row, sz_drew, sz_drewN] <;> omega) | omega)) only [hq_eq, hq_ne, hq_set, hq_row, hq_drew, hq_drewN]) <;> (first | rfl | assumption))))) | ((with_reducible apply stZero); (focus rfl); (focus rfl); (first | assumption | (focus ((try simp (disch := (first | (simp only [sz_alloc, sz_set, sz_row, sz_drew, sz_drewN] <;> omega) | omega)) only [hq_eq, hq_ne, hq_set, hq_row, hq_drew, hq_drewN]) <;> (first | rfl | assumption))))))
            refine retSet rfl rfl rfl (setRow_heap _ _ _ _ _ _ hb1) ?_
            rw [HXN.out]
            exact ⟨⟨noS, rfl⟩, below_setRow (hB.trans (hB1.mono hB.size)) _ (Nat.le_refl _)⟩
          | some p =>
            obtain ⟨f, r0⟩ := p
            have hlt2 := clsPart_lt hq
            rw [hq] at hP hr2
            obtain ⟨⟨v, r, rfl, hr, hV⟩, hB1⟩ := hP
            have hb1 := (hB1.block _ hlt).trans hb
            simp only at hr2
            rw [← hr] at hr2 hlt2
            have hz1 : r.size = r.data.toList.length := bytes_len r
            have hz2 : rs.size = rs.data.toList.length := bytes_len rs
            have HH := Lib.hid hr2
            have HZ := Lib.hid (show r.size < rs.size by omega)
            clear hr2 hq hr hlt2 hz1 hz2
            go_wp2_with fail
            refine (add_any _ wq w.heap.size acc f v hb1 hlt hV).mono ?_
            rintro e w2 ⟨rfl, hb2, hU2⟩
            go_wp2_with fail
            go_roundw
            case rel =>
              have := HZ.out
              have hsz := hB1.size
              exact ⟨n, r, false, _, rfl, rfl, HH.out.symm, by omega, by omega, hb2, (hB.trans (hB1.mono hB.size)).trans (below_atB hU2 (by omega)), Nat.lt_of_lt_of_le hlt (Nat.le_trans hB1.size hU2.size)⟩
            case measure => exact HZ.out
        | false =>
          have hpx : Lib.hasPrefix rs.data.toList [93] = false := by
            rcases hgo with h | h
            · cases h
            · exact h
          go_wp2_with (go_at_call 17; refine (Tryd.strings_HasPrefix _ _ _).mono ?_; rintro e wx ⟨rfl, rfl⟩; rw [show (⟨#[93]⟩ : ByteArray).data.toList = [93] from rfl, hpx])
          refine (cpart_any named_any _ rs (hE.below hB h4) (Nat.le_trans h4 hB.size) hz).mono ?_
          intro e wq hP
          have hr2 := HR2.out
          cases hq : clsPart rs.data.toList with
          | none =>
            rw [hq] at hP hr2
            obtain ⟨⟨v, r, rfl⟩, hB1⟩ := hP
            have hXn : clsParse s.data.toList = none := by rw [HX.out, hr2]
            have HXN := Lib.hid hXn
            have hb1 := (hB1.block _ hlt).trans hb
            clear hXn hr2 hq
            go_wp2_with (first | ((with_reducible apply ldS256); (focus rfl); (first | assumption | (focus ((try simp (disch := (first | (simp only [sz_alloc, sz_set, sz_row, sz_drew, sz_drewN] <;> omega) | omega)) only [hq_eq, hq_ne, hq_set, hq_row, hq_drew, hq_drewN]) <;> (first | rfl | assumption))))) | ((with_reducible apply stZero); (focus rfl); (focus rfl); (first | assumption | (focus ((try simp (disch := (first | (simp only [sz_alloc, sz_set, sz_row, sz_drew, sz_drewN] <;> omega) | omega)) only [hq_eq, hq_ne, hq_set, hq_row, hq_drew, hq_drewN]) <;> (first | rfl | assumption))))))
            refine retSet rfl rfl rfl (setRow_heap _ _ _ _ _ _ hb1) ?_
            rw [HXN.out]
            exact ⟨⟨noS, rfl⟩, below_setRow (hB.trans (hB1.mono hB.size)) _ (Nat.le_refl _)⟩
          | some p =>
            obtain ⟨f, r0⟩ := p
            have hlt2 := clsPart_lt hq
            rw [hq] at hP hr2
            obtain ⟨⟨v, r, rfl, hr, hV⟩, hB1⟩ := hP
            have hb1 := (hB1.block _ hlt).trans hb
            simp only at hr2
            rw [← hr] at hr2 hlt2
            have hz1 : r.size = r.data.toList.length := bytes_len r
            have hz2 : rs.size = rs.data.toList.length := bytes_len rs
            have HH := Lib.hid hr2
            have HZ := Lib.hid (show r.size < rs.size by omega)
            clear hr2 hq hr hlt2 hz1 hz2
            go_wp2_with fail
            refine (add_any _ wq w.heap.size acc f v hb1 hlt hV).mono ?_
            rintro e w2 ⟨rfl, hb2, hU2⟩
            go_wp2_with fail
            go_roundw
            case rel =>
              have := HZ.out
              have hsz := hB1.size
              exact ⟨n, r, false, _, rfl, rfl, HH.out.symm, by omega, by omega, hb2, (hB.trans (hB1.mono hB.size)).trans (below_atB hU2 (by omega)), Nat.lt_of_lt_of_le hlt (Nat.le_trans hB1.size hU2.size)⟩
            case measure => exact HZ.out
theorem cls_any : ClsSaid := by
  intro w s hE h4 hl
  refine (cls_walk w s hE h4 hl).mono ?_
  intro e w' h
  cases hq : clsParse s.data.toList with
  | none => rw [hq] at h; exact h
  | some p => rw [hq] at h; obtain ⟨f, r⟩ := p; exact h
end Go.Proofs.YtkbfckigndkkkaaDoor
