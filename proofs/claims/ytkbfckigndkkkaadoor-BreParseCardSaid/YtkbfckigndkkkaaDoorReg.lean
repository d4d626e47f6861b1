/-
  A region that draws its order, whatever its operations do: each operation leaves a fact about its value and the world, facts stay under what any later operation does to the world, and every order comes to the same facts.
-/
import Derived.Orders
import Derived.Tactics
import Derived.Test.YtkbfckigndkkkaaDoorMem
namespace Go.Proofs.YtkbfckigndkkkaaDoor
set_option linter.unusedSimpArgs false
set_option linter.unusedVariables false
open Go

def preds (o : Oper) : List Nat := (o.after.toList.filter fun e => Region.binds .any e).map (·.on)
def ancTab (l : List Oper) : List (List Nat) :=
  l.foldl (fun tab o => tab ++ [(preds o ++ (preds o).flatMap fun p => tab.getD p []).eraseDups]) []
/-- Which operations are done ahead of number i, in every order. -/
def ancs (l : List Oper) (i : Nat) : List Nat := (ancTab l).getD i []
def slotOf (l : List Oper) (t : Tmp) : Option Nat := l.findIdx? fun o => o.dst == some t
def ancB (l : List Oper) : Bool :=
  l.zipIdx.all fun (o, i) => (ancs l i).all fun k => (preds o).contains k || (preds o).any fun p => (ancs l p).contains k
def slotB (l : List Oper) (size : Nat) : Bool :=
  l.zipIdx.all fun (o, i) =>
    (match o.dst with | some d => decide (d < size) && slotOf l d == some i | none => true) &&
    (o.op.operands.toList.all fun | .tmp t => (match slotOf l t with | some j => (ancs l i).contains j | none => true) | _ => true) &&
    (match o.guard with | none => true | some (j, _) => (ancs l i).contains j && ((l[j]?).bind (·.dst)).isSome)
def ordB (l : List Oper) : Bool := l.zipIdx.all fun (o, i) => (preds o).all fun k => decide (k < i)
def updV (vals : Nat → Value) (i : Nat) (v : Value) : Nat → Value := fun k => if k = i then v else vals k
def lookL (l : List Oper) (a : Act) (vals : Nat → Value) : Operand → Value
  | .tmp t => match slotOf l t with | some j => vals j | none => a.eval (.tmp t)
  | x => a.eval x
def wantedV (o : Oper) (vals : Nat → Value) : Bool :=
  match o.guard with
  | none => true
  | some (j, want) => (match vals j with | .bool b => some b | _ => none) == some want
def putList (a : Act) : List Oper → (Nat → Value) → Nat → Act
  | [], _, _ => a
  | o :: rest, vals, i => putList (a.put o.dst (vals i)) rest vals (i + 1)

/-- The frame when these have been done. -/
structure DoneAct (l : List Oper) (a0 : Act) (listed : Nat → Bool) (vals : Nat → Value) (a : Act) : Prop where
  defers : a.defers = a0.defers
  size : a.tmps.size = a0.tmps.size
  tmps : ∀ t, t < a0.tmps.size → a.tmps[t]? = match slotOf l t with
    | some i => if listed i then some (vals i) else a0.tmps[t]?
    | none => a0.tmps[t]?

theorem updV_same (vals : Nat → Value) (i : Nat) (v : Value) : updV vals i v i = v := by simp [updV]
theorem updV_ne {vals : Nat → Value} {i k : Nat} {v : Value} (h : k ≠ i) : updV vals i v k = vals k := by simp [updV, h]

section
variable {P : Program} {Q : Exit → Act → World → Prop} {l : List Oper} {a0 : Act}

theorem slotB_at {size i : Nat} {o : Oper} (h : slotB l size = true) (ho : l[i]? = some o) :
    (∀ d, o.dst = some d → d < size ∧ slotOf l d = some i) ∧
    (∀ t, Operand.tmp t ∈ o.op.operands.toList → ∀ j, slotOf l t = some j → j ∈ ancs l i) ∧
    (∀ j b, o.guard = some (j, b) → j ∈ ancs l i ∧ ((l[j]?).bind (·.dst)).isSome) := by
  have h1 := List.all_eq_true.1 h (o, i) (by rw [List.mem_zipIdx_iff_getElem?]; exact ho)
  simp only [Bool.and_eq_true] at h1
  obtain ⟨⟨h1, h2⟩, h3⟩ := h1
  refine ⟨fun d hd => ?_, fun t ht j hj => ?_, fun j b hg => ?_⟩
  · rw [hd] at h1; simpa using h1
  · have := List.all_eq_true.1 h2 _ ht
    simp only [hj] at this
    simpa using this
  · rw [hg] at h3; simpa using h3

theorem DoneAct.put {listed : Nat → Bool} {vals : Nat → Value} {a : Act} {i : Nat} {o : Oper} (hs : slotB l a0.tmps.size = true)
    (hd : DoneAct l a0 listed vals a) (ho : l[i]? = some o) (v : Value) :
    DoneAct l a0 (fun k => if k = i then true else listed k) (updV vals i v) (a.put o.dst v) := by
  obtain ⟨hdst, -, -⟩ := slotB_at hs ho
  have key : ∀ t, (∀ d, o.dst = some d → t ≠ d) → slotOf l t ≠ some i := by
    intro t ht hslot
    unfold slotOf at hslot
    rw [List.findIdx?_eq_some_iff_getElem] at hslot
    obtain ⟨hlt, hp, -⟩ := hslot
    have : l[i]? = some l[i] := List.getElem?_eq_getElem hlt
    rw [ho] at this
    have e : o = l[i] := Option.some.inj this
    rw [← e] at hp
    exact ht t (by simpa using hp) rfl
  have old : ∀ t, (∀ d, o.dst = some d → t ≠ d) → t < a0.tmps.size → a.tmps[t]? = match slotOf l t with
      | some j => if (if j = i then true else listed j) = true then some (updV vals i v j) else a0.tmps[t]?
      | none => a0.tmps[t]? := by
    intro t ht hlt
    rw [hd.tmps t hlt]
    have := key t ht
    cases hsl : slotOf l t with
    | none => rfl
    | some j =>
      have hji : j ≠ i := fun e => this (by rw [hsl, e])
      simp only [hji, if_false, updV_ne hji]
  cases hod : o.dst with
  | none => exact ⟨hd.defers, hd.size, fun t ht => old t (by simp [hod]) ht⟩
  | some d =>
    obtain ⟨hlt, hsl⟩ := hdst d hod
    refine ⟨hd.defers, by simp only [Act.put, Array.size_setIfInBounds]; exact hd.size, fun t ht => ?_⟩
    simp only [Act.put]
    by_cases htd : t = d
    · subst htd
      rw [hsl]
      simp [Array.getElem?_setIfInBounds, hd.size, hlt, updV_same]
    · rw [Array.getElem?_setIfInBounds_ne (Ne.symm htd)]
      exact old t (by rw [hod]; intro d' e; cases e; exact htd) ht

theorem DoneAct.eval {listed : Nat → Bool} {vals : Nat → Value} {a : Act} {i : Nat} {o : Oper} (hs : slotB l a0.tmps.size = true)
    (hd : DoneAct l a0 listed vals a) (ho : l[i]? = some o) (hl : ∀ k ∈ ancs l i, listed k = true) :
    ∀ x ∈ o.op.operands.toList, a.eval x = lookL l a0 vals x := by
  intro x hx
  obtain ⟨-, hop, -⟩ := slotB_at hs ho
  cases x with
  | tmp t =>
    simp only [lookL]
    have ev : ∀ b : Act, b.eval (.tmp t) = (b.tmps[t]?).getD undef := fun b => by simp [Act.eval]
    by_cases ht : t < a0.tmps.size
    · have := hd.tmps t ht
      cases hsl : slotOf l t with
      | none => rw [hsl] at this; simp only [ev, this]
      | some j =>
        rw [hsl] at this
        simp only [hl j (hop t hx j hsl), if_true] at this
        rw [ev, this]; rfl
    · have hsl : slotOf l t = none := by
        cases hsl : slotOf l t with
        | none => rfl
        | some j =>
          exfalso
          unfold slotOf at hsl
          rw [List.findIdx?_eq_some_iff_getElem] at hsl
          obtain ⟨hlt, hp, -⟩ := hsl
          exact ht ((slotB_at hs (List.getElem?_eq_getElem hlt)).1 t (by simpa using hp)).1
      rw [hsl]
      have h1 : a0.tmps[t]? = none := Array.getElem?_eq_none (Nat.le_of_not_lt ht)
      have h2 : a.tmps[t]? = none := Array.getElem?_eq_none (by rw [hd.size]; exact Nat.le_of_not_lt ht)
      simp only [ev, h1, h2]
  | const v => rfl
  | global g => rfl
  | func f => rfl

theorem DoneAct.wanted {listed : Nat → Bool} {vals : Nat → Value} {a : Act} {i : Nat} {o : Oper} (hs : slotB l a0.tmps.size = true)
    (hd : DoneAct l a0 listed vals a) (ho : l[i]? = some o) (hl : ∀ k ∈ ancs l i, listed k = true) :
    Region.wanted o (yielded l.toArray a.tmps) = wantedV o vals := by
  unfold Region.wanted wantedV
  cases hg : o.guard with
  | none => rfl
  | some g =>
    obtain ⟨j, want⟩ := g
    obtain ⟨hj, hsome⟩ := (slotB_at hs ho).2.2 j want hg
    simp only [yielded, List.getElem?_toArray]
    cases hlj : l[j]? with
    | none => simp [hlj] at hsome
    | some oj =>
      cases hdj : oj.dst with
      | none => simp [hlj, hdj] at hsome
      | some d =>
        obtain ⟨hlt, hsl⟩ := (slotB_at hs hlj).1 d hdj
        have := hd.tmps d hlt
        rw [hsl] at this
        simp only [hl j hj, if_true] at this
        simp only [Option.bind_some, hdj, this]
        cases vals j <;> rfl

theorem putList_done (hs : slotB l a0.tmps.size = true) (vals : Nat → Value) : ∀ (rest : List Oper) (i : Nat) (a : Act) (vals' : Nat → Value), (∀ j, rest[j]? = l[i + j]?) → i + rest.length = l.length →
    DoneAct l a0 (fun k => decide (k < i)) vals' a → (∀ k, k < i → vals' k = vals k) → DoneAct l a0 (fun k => decide (k < l.length)) vals (putList a rest vals i)
  | [], i, a, vals', _, hlen, hd, hv => by
    simp only [List.length_nil, Nat.add_zero] at hlen
    subst hlen
    refine ⟨hd.defers, hd.size, fun t ht => ?_⟩
    simp only [putList]
    rw [hd.tmps t ht]
    cases hsl : slotOf l t with
    | none => rfl
    | some j =>
      simp only [decide_eq_true_eq]
      split
      · rename_i h; rw [hv j h]
      · rfl
  | o :: rest, i, a, vals', hr, hlen, hd, hv => by
    have ho : l[i]? = some o := by simpa using (hr 0).symm
    simp only [putList]
    refine putList_done hs vals rest (i + 1) _ (updV vals' i (vals i)) (fun j => by have := hr (j + 1); simpa [Nat.add_assoc, Nat.add_comm 1 j] using this)
      (by simp only [List.length_cons] at hlen; omega) ?_ ?_
    · have := hd.put hs ho (vals i)
      refine ⟨this.defers, this.size, fun t ht => ?_⟩
      rw [this.tmps t ht]
      cases hsl : slotOf l t with
      | none => rfl
      | some j =>
        have e : (if j = i then true else decide (j < i)) = decide (j < i + 1) := by
          by_cases hji : j = i
          · simp [hji]
          · simp only [hji, if_false]; congr 1; rw [eq_iff_iff]; omega
        simp only [e]
    · intro k hk
      by_cases hki : k = i
      · subst hki; exact updV_same _ _ _
      · rw [updV_ne hki]; exact hv k (by omega)

theorem DoneAct.ext {listed : Nat → Bool} {vals : Nat → Value} {a b : Act} (ha : DoneAct l a0 listed vals a) (hb : DoneAct l a0 listed vals b) : a = b := by
  obtain ⟨ta, da⟩ := a
  obtain ⟨tb, db⟩ := b
  have hd : da = db := ha.defers.trans hb.defers.symm
  have ht : ta = tb := by
    apply Array.ext_getElem?
    intro t
    by_cases h : t < a0.tmps.size
    · exact (ha.tmps t h).trans (hb.tmps t h).symm
    · rw [Array.getElem?_eq_none (by have := ha.size; simp only at this; omega), Array.getElem?_eq_none (by have := hb.size; simp only at this; omega)]
  rw [hd, ht]

theorem rep_false (m j : Nat) : (Array.replicate m false).getD j false = false := by
  rcases Nat.lt_or_ge j m with h | h
  · simp [h]
  · simp [h]

theorem full_of_ready {listed : Array Bool} (hord : ordB l = true) (hsz : listed.size = l.length) (hnil : Region.ready .any l.toArray listed = []) :
    ∀ k, k < l.length → listed.getD k false = true := by
  intro k
  induction k using Nat.strongRecOn with
  | _ k ih =>
    intro hk
    cases hq : listed.getD k false with
    | true => rfl
    | false =>
      exfalso
      have hmr : k ∈ Region.ready .any l.toArray listed := by
        rw [mem_ready]
        refine ⟨?_, l[k], by simp [hk], ?_⟩
        · rw [Array.getD_eq_getD_getElem?, Array.getElem?_eq_getElem (by rw [hsz]; exact hk)] at hq ⊢
          simpa using hq
        · intro e he hb
          have h1 := List.all_eq_true.1 hord (l[k], k) (by rw [List.mem_zipIdx_iff_getElem?]; exact List.getElem?_eq_getElem hk)
          have h2 := List.all_eq_true.1 h1 e.on (by
            simp only [preds, List.mem_map, List.mem_filter]
            exact ⟨e, ⟨by simpa using he, hb⟩, rfl⟩)
          have h3 : e.on < k := by simpa using h2
          exact ih e.on h3 (by omega)
      rw [hnil] at hmr; cases hmr

/-- What the walk shows of operation number i, in whatever order it comes up. -/
def HopF (P : Program) (Q : Exit → Act → World → Prop) (l : List Oper) (a0 : Act) (R : World → World → Prop) (F : Nat → (Nat → Value) → World → Prop) (G : World → Prop) (i : Nat) (o : Oper) : Prop :=
  ∀ (vals : Nat → Value) (w : World) (a : Act), G w → (∀ k ∈ ancs l i, F k vals w) → (∀ x ∈ o.op.operands.toList, a.eval x = lookL l a0 vals x) →
    if wantedV o vals then o.wp P a w (fun a' w' => ∃ v, a' = a.put o.dst v ∧ F i (updV vals i v) w' ∧ R w w') Q ∨ (o.asks P a w ∧ LetsOut Q)
    else F i (updV vals i undef) w

theorem wp_region_facts {id : Nat} {w0 : World} (hm : P.follows .mixedOrders = true) (R : Nat → World → World → Prop) (T : World → World → Prop) (F : Nat → (Nat → Value) → World → Prop) (G : Nat → World → Prop)
    (hord : ordB l = true) (hanc : ancB l = true) (hs : slotB l a0.tmps.size = true)
    (hrefl : ∀ w, T w w) (htr : ∀ i w w1 w2, T w w1 → R i w1 w2 → T w w2)
    (hself : ∀ i w, R i w w) (hG0 : ∀ i, i < l.length → G i w0.drew) (hG : ∀ i j w w', i < l.length → j < l.length → j ≠ i → i ∉ ancs l j → G i w → R j w w' → G i w')
    (hst : ∀ i j vals w w', i < l.length → j < l.length → j ≠ i → j ∉ ancs l i → F i vals w → R j w w' → F i vals w')
    (hdep : ∀ i j vals v w, i < l.length → j ≠ i → j ∉ ancs l i → F i vals w → F i (updV vals j v) w)
    (hop : ∀ i o, l[i]? = some o → HopF P Q l a0 (R i) F (G i) i o)
    (hend : ∀ vals w, T w0.drew w → (∀ i, i < l.length → F i vals w) → Q .normal (putList a0 l vals 0) w) :
    (Code.region id l.toArray true).wp P Q a0 w0 := by
  refine wp_region_any hm ?_
  have anc_of : ∀ (listed : Array Bool), (∀ j oj, l[j]? = some oj → listed.getD j false = true → ∀ k ∈ ancs l j, listed.getD k false = true) →
      ∀ i o, l[i]? = some o → (∀ e ∈ o.after, Region.binds .any e = true → listed.getD e.on false = true) → ∀ k ∈ ancs l i, listed.getD k false = true := by
    intro listed hcl i o ho hall k hk
    have h1 := List.all_eq_true.1 hanc (o, i) (by rw [List.mem_zipIdx_iff_getElem?]; exact ho)
    have h2 := List.all_eq_true.1 h1 k hk
    have hp : ∀ p ∈ preds o, listed.getD p false = true := by
      intro p hp
      simp only [preds, List.mem_map, List.mem_filter] at hp
      obtain ⟨e, ⟨he, hb⟩, rfl⟩ := hp
      exact hall e (by simpa using he) hb
    simp only [Bool.or_eq_true, List.any_eq_true, List.contains_iff_mem] at h2
    rcases h2 with h2 | ⟨p, hpm, hpk⟩
    · exact hp k h2
    · have hlp := hp p hpm
      cases hop' : l[p]? with
      | none =>
        exfalso
        have : ancs l p = [] := by
          unfold ancs
          have hlen : (ancTab l).length = l.length := by
            unfold ancTab
            have : ∀ (l : List Oper) (tab : List (List Nat)), (l.foldl (fun tab o => tab ++ [(preds o ++ (preds o).flatMap fun p => tab.getD p []).eraseDups]) tab).length = tab.length + l.length := by
              intro l
              induction l with
              | nil => intro tab; simp
              | cons x xs ih => intro tab; simp only [List.foldl_cons]; rw [ih]; simp; omega
            simpa using this l []
          rw [List.getD_eq_getElem?_getD, List.getElem?_eq_none (by rw [hlen]; exact List.getElem?_eq_none_iff.1 hop')]
          rfl
        rw [this] at hpk
        cases hpk
      | some op => exact hcl p op hop' hlp k hpk
  have main : ∀ (fuel : Nat) (listed : Array Bool) (vals : Nat → Value) (a : Act) (w : World), listed.size = l.length →
      (∀ j oj, l[j]? = some oj → listed.getD j false = true → ∀ k ∈ ancs l j, listed.getD k false = true) →
      (∀ j oj, l[j]? = some oj → listed.getD j false = true → ∀ e ∈ oj.after, Region.binds .any e = true → listed.getD e.on false = true) →
      DoneAct l a0 (fun k => listed.getD k false) vals a → (∀ k, k < l.length → listed.getD k false = true → F k vals w) → T w0.drew w → (∀ k, k < l.length → listed.getD k false = false → G k w) →
      (l.length ≤ fuel + (List.range l.length).countP (fun k => listed.getD k false)) → wpAny P .any l.toArray Q fuel listed a w := by
    intro fuel
    induction fuel with
    | zero =>
      intro listed vals a w hsz hcl hcp hd hF hR hGw hfuel
      have hall : ∀ k, k < l.length → listed.getD k false = true := by
        intro k hk
        have h1 : (List.range l.length).countP (fun k => listed.getD k false) = (List.range l.length).length := by
          have := List.countP_le_length (p := fun k => listed.getD k false) (l := List.range l.length)
          simp only [List.length_range] at this ⊢
          omega
        rw [List.countP_eq_length] at h1
        exact h1 k (List.mem_range.2 hk)
      have hready : Region.ready .any l.toArray listed = [] := by
        rw [List.eq_nil_iff_forall_not_mem]
        intro j hj
        obtain ⟨h0, o, ho, -⟩ := mem_ready.1 hj
        have hlt : j < l.length := by
          have := (Array.getElem?_eq_some_iff.1 ho).1
          simpa using this
        have h1 := hall j hlt
        rw [Array.getD_eq_getD_getElem?, Array.getElem?_eq_getElem (by rw [hsz]; exact hlt)] at h0 h1
        simp only [Option.getD_some] at h0 h1
        rw [h0] at h1; cases h1
      refine ⟨hready, ?_⟩
      have e : a = putList a0 l vals 0 := by
        refine DoneAct.ext (l := l) (a0 := a0) (listed := fun k => decide (k < l.length)) (vals := vals) ?_ ?_
        · refine ⟨hd.defers, hd.size, fun t ht => ?_⟩
          rw [hd.tmps t ht]
          cases hsl : slotOf l t with
          | none => rfl
          | some j =>
            have hj : j < l.length := by
              unfold slotOf at hsl
              rw [List.findIdx?_eq_some_iff_getElem] at hsl
              exact hsl.1
            simp only [hall j hj, hj, decide_true]
        · exact putList_done hs vals l 0 a0 vals (fun j => by simp) (by simp) ⟨rfl, rfl, fun t _ => by cases slotOf l t <;> simp⟩ (fun k hk => by omega)
      rw [e]
      exact hend vals w hR fun i hi => hF i hi (hall i hi)
    | succ fuel ih =>
      intro listed vals a w hsz hcl hcp hd hF hR hGw hfuel
      refine ⟨fun hnil => ?_, fun i hi => ?_⟩
      · have hall := full_of_ready hord hsz hnil
        have e : a = putList a0 l vals 0 := by
          refine DoneAct.ext (l := l) (a0 := a0) (listed := fun k => decide (k < l.length)) (vals := vals) ?_ ?_
          · refine ⟨hd.defers, hd.size, fun t ht => ?_⟩
            rw [hd.tmps t ht]
            cases hsl : slotOf l t with
            | none => rfl
            | some j =>
              have hj : j < l.length := by
                unfold slotOf at hsl
                rw [List.findIdx?_eq_some_iff_getElem] at hsl
                exact hsl.1
              simp only [hall j hj, hj, decide_true]
          · exact putList_done hs vals l 0 a0 vals (fun j => by simp) (by simp) ⟨rfl, rfl, fun t _ => by cases slotOf l t <;> simp⟩ (fun k hk => by omega)
        rw [e]
        exact hend vals w hR fun i hi => hF i hi (hall i hi)
      · obtain ⟨hun, o, ho, hall⟩ := mem_ready.1 hi
        have ho' : l[i]? = some o := by simpa using ho
        have hlt : i < l.length := (List.getElem?_eq_some_iff.1 ho').1
        have hanci := anc_of listed hcl i o ho' hall
        have hkF : ∀ k ∈ ancs l i, F k vals w := fun k hk => by
          have hlk := hanci k hk
          refine hF k ?_ hlk
          rcases Nat.lt_or_ge k l.length with h | h
          · exact h
          · rw [Array.getD_eq_getD_getElem?, Array.getElem?_eq_none (by rw [hsz]; exact h)] at hlk; cases hlk
        have H := hop i o ho' vals w a (hGw i hlt (by
          rw [Array.getD_eq_getD_getElem?, Array.getElem?_eq_getElem (by rw [hsz]; exact hlt)] at hun ⊢
          simpa using hun)) hkF (hd.eval hs ho' hanci)
        have hunf : listed.getD i false = false := by
          rw [Array.getD_eq_getD_getElem?, Array.getElem?_eq_getElem (by rw [hsz]; exact hlt)] at hun ⊢
          simpa using hun
        have next : ∀ (v : Value) (w' : World), F i (updV vals i v) w' → R i w w' →
            wpAny P .any l.toArray Q fuel (listed.setIfInBounds i true) (a.put o.dst v) w' := by
          intro v w' hFi hRw
          have hset : ∀ k, (listed.setIfInBounds i true).getD k false = if k = i then true else listed.getD k false := by
            intro k
            by_cases hki : k = i
            · subst hki
              rw [Array.getD_eq_getD_getElem?, Array.getElem?_setIfInBounds_self_of_lt (by rw [hsz]; exact hlt)]
              simp
            · rw [getD_set_ne false (Ne.symm hki), if_neg hki]
          refine ih (listed.setIfInBounds i true) (updV vals i v) (a.put o.dst v) w' (by simp [hsz]) ?_ ?_ ?_ ?_ (htr i _ _ _ hR hRw) ?_ ?_
          · intro j oj hoj hlj k hk
            rw [hset] at hlj ⊢
            by_cases hki : k = i
            · simp [hki]
            · rw [if_neg hki]
              by_cases hji : j = i
              · subst hji
                exact hanci k hk
              · rw [if_neg hji] at hlj
                exact hcl j oj hoj hlj k hk
          · intro j oj hoj hlj e he hb
            rw [hset] at hlj ⊢
            by_cases hki : e.on = i
            · simp [hki]
            · rw [if_neg hki]
              by_cases hji : j = i
              · subst hji
                rw [ho'] at hoj; cases hoj
                exact hall e he hb
              · rw [if_neg hji] at hlj
                exact hcp j oj hoj hlj e he hb
          · have := hd.put hs ho' v
            refine ⟨this.defers, this.size, fun t ht => ?_⟩
            rw [this.tmps t ht]
            cases slotOf l t with
            | none => rfl
            | some j => simp only [hset]
          · intro k hk hlk
            rw [hset] at hlk
            by_cases hki : k = i
            · subst hki; exact hFi
            · rw [if_neg hki] at hlk
              have hnm : i ∉ ancs l k := fun hmem => by
                cases hok : l[k]? with
                | none => rw [List.getElem?_eq_none_iff] at hok; omega
                | some ok =>
                  have := hcl k ok hok hlk i hmem
                  rw [hunf] at this; cases this
              exact hdep k i vals v w' hk (Ne.symm hki) hnm (hst k i vals w w' hk hlt (Ne.symm hki) hnm (hF k hk hlk) hRw)
          · intro k hk hlk
            rw [hset] at hlk
            by_cases hki : k = i
            · rw [if_pos hki] at hlk; cases hlk
            · rw [if_neg hki] at hlk
              refine hG k i w w' hk hlt (Ne.symm hki) (fun hmem => ?_) (hGw k hk hlk) hRw
              have := hanci k hmem
              rw [hlk] at this; cases this
          · have hcount : (List.range l.length).countP (fun k => listed.getD k false) + 1 ≤ (List.range l.length).countP (fun k => (listed.setIfInBounds i true).getD k false) := by
              have gen : ∀ (xs : List Nat), xs.Nodup → i ∈ xs → xs.countP (fun k => listed.getD k false) + 1 ≤ xs.countP (fun k => (listed.setIfInBounds i true).getD k false) := by
                intro xs
                induction xs with
                | nil => intro _ h; cases h
                | cons x xs ihx =>
                  intro hnd hmem
                  obtain ⟨hnx, hnd'⟩ := List.nodup_cons.1 hnd
                  rw [List.countP_cons, List.countP_cons]
                  by_cases hxi : x = i
                  · subst hxi
                    have hle : xs.countP (fun k => listed.getD k false) ≤ xs.countP (fun k => (listed.setIfInBounds x true).getD k false) := by
                      refine List.countP_mono_left fun k _ hk => ?_
                      rw [hset]; split
                      · rfl
                      · exact hk
                    rw [hset, hunf]
                    simp only [if_true, Bool.false_eq_true, if_false]
                    omega
                  · have := ihx hnd' (by cases hmem with | head => exact absurd rfl hxi | tail _ h => exact h)
                    rw [hset, if_neg hxi]
                    omega
              exact gen _ List.nodup_range (List.mem_range.2 hlt)
            omega
        unfold wpOp
        simp only [ho]
        have hwant := hd.wanted hs ho' hanci
        rw [hwant]
        split
        · rename_i hw
          rw [if_pos hw] at H
          rcases H with H | H
          · refine .inl (Oper.wp_mono (fun a' w' hK => ?_) H)
            obtain ⟨v, ha', hFi, hRw⟩ := hK
            subst ha'
            exact next v w' hFi hRw
          · exact .inr H
        · rename_i hw
          rw [if_neg hw] at H
          exact next undef w H (hself i w)
  refine main l.toArray.size (Array.replicate l.toArray.size false) (fun _ => undef) a0 w0.drew (by simp) ?_ ?_ ?_ ?_ (hrefl _) (fun k hk _ => hG0 k hk) (by simp)
  · intro j oj _ hlj; rw [rep_false] at hlj; cases hlj
  · intro j oj _ hlj; rw [rep_false] at hlj; cases hlj
  · refine ⟨rfl, rfl, fun t _ => ?_⟩
    cases slotOf l t with
    | none => rfl
    | some j => simp only [rep_false, Bool.false_eq_true, if_false]
  · intro k _ hlk; rw [rep_false] at hlk; cases hlk
end
end Go.Proofs.YtkbfckigndkkkaaDoor

/-
  A region that draws its order, whose operations only add memory: a fact of each one's value.
-/
namespace Go.Proofs.YtkbfckigndkkkaaDoor
open Go Go.RowKit

/-- What is shown of one operation. -/
def HopV (P : Program) (Q : Exit → Act → World → Prop) (l : List Oper) (a0 : Act) (V : Nat → Value → World → Prop) (G : World → Prop) (i : Nat) (o : Oper) : Prop :=
  ∀ (vals : Nat → Value) (w : World) (a : Act), G w → (∀ k ∈ ancs l i, V k (vals k) w) → (∀ x ∈ o.op.operands.toList, a.eval x = lookL l a0 vals x) →
    if wantedV o vals then o.wp P a w (fun a' w' => ∃ v, a' = a.put o.dst v ∧ V i v w' ∧ Below w.heap.size w w') Q ∨ (o.asks P a w ∧ LetsOut Q) else V i undef w

theorem wp_region_vals {P : Program} {Q : Exit → Act → World → Prop} {l : List Oper} {a0 : Act} {id : Nat} {w0 : World} (hm : P.follows .mixedOrders = true) (V : Nat → Value → World → Prop) (G : World → Prop)
    (hord : ordB l = true) (hanc : ancB l = true) (hs : slotB l a0.tmps.size = true)
    (hV : ∀ i v w w', V i v w → Below w.heap.size w w' → V i v w') (hG0 : G w0.drew) (hG : ∀ w w', G w → Below w.heap.size w w' → G w')
    (hop : ∀ i o, l[i]? = some o → HopV P Q l a0 V G i o)
    (hend : ∀ vals w, Below w0.heap.size w0 w → G w → (∀ i, i < l.length → V i (vals i) w) → Q .normal (putList a0 l vals 0) w) :
    (Code.region id l.toArray true).wp P Q a0 w0 := by
  refine wp_region_facts (w0 := w0) hm (fun _ w w' => Below w.heap.size w w') (fun w w' => Below w.heap.size w w' ∧ (G w → G w')) (fun i vals w => V i (vals i) w) (fun _ w => G w) hord hanc hs
    (fun w => ⟨Below.refl _ _, fun h => h⟩) ?_ (fun _ w => Below.refl _ _) (fun _ _ => hG0) ?_ ?_ ?_ ?_ ?_
  · intro i w w1 w2 h1 h2
    exact ⟨h1.1.trans (h2.mono h1.1.size), fun hg => hG _ _ (h1.2 hg) h2⟩
  · intro i j w w' _ _ _ _ hg h2; exact hG _ _ hg h2
  · intro i j vals w w' _ _ _ _ hF h2; exact hV _ _ _ _ hF h2
  · intro i j vals v w _ hji _ hF
    have : updV vals j v i = vals i := updV_ne (Ne.symm hji)
    rw [this]; exact hF
  · intro i o ho vals w a hg hF ha
    have := hop i o ho vals w a hg hF ha
    split
    · rename_i hw
      rw [if_pos hw] at this
      rcases this with h | h
      · refine .inl (Oper.wp_mono (fun a' w' hK => ?_) h)
        obtain ⟨v, h1, h2, h3⟩ := hK
        exact ⟨v, h1, (show V i (updV vals i v i) w' by rw [updV_same]; exact h2), h3⟩
      · exact .inr h
    · rename_i hw
      rw [if_neg hw] at this
      show V i (updV vals i undef i) w
      rw [updV_same]; exact this
  · intro vals w hT hF
    exact hend vals w ⟨hT.1.os, hT.1.tape, hT.1.output, hT.1.size, hT.1.block⟩ (hT.2 hG0) hF
/-- An operation that runs to a value. -/
theorem wp_value {P : Program} {o : Oper} {a : Act} {w w' : World} {v : Value} {K : Act → World → Prop} {Q : Exit → Act → World → Prop} (h : (execOp a.eval o).run P w = .ok (.value v) w') (hK : K (a.put o.dst v) w') : o.wp P a w K Q := by
  unfold Oper.wp; rw [h]; exact hK
theorem wp_skip' {P : Program} {o : Oper} {a : Act} {w w' : World} {K : Act → World → Prop} {Q : Exit → Act → World → Prop} (h : (execOp a.eval o).run P w = .ok .skip w') (hK : K (a.put o.dst undef) w') : o.wp P a w K Q := by
  unfold Oper.wp; rw [h]; exact hK
/-- An operation that calls a function. -/
theorem wp_calls {P : Program} {o : Oper} {a : Act} {w w1 : World} {f : FuncId} {args : Array Value} {K : Act → World → Prop} {Q : Exit → Act → World → Prop} {v : Value} {w' : World}
    (h : (execOp a.eval o).run P w = .ok (.enter f args) w1) (hc : Calls P f args w1 fun e w2 => e = .returned v ∧ w2 = w') (hK : K (a.put o.dst v) w') : o.wp P a w K Q := by
  unfold Oper.wp; rw [h]
  refine hc.mono ?_
  rintro e w2 ⟨rfl, rfl⟩
  exact hK
end Go.Proofs.YtkbfckigndkkkaaDoor

/-
  A region that draws its order, whose operations keep to one relation of worlds: a fact of each one's value and the first one's.
-/
namespace Go.Proofs.YtkbfckigndkkkaaDoor
open Go Go.RowKit

/-- What is shown of one operation. -/
def HopS (P : Program) (Q : Exit → Act → World → Prop) (l : List Oper) (a0 : Act) (V : Nat → Value → Value → World → Prop) (G : World → Prop) (R : World → World → Prop) (i : Nat) (o : Oper) : Prop :=
  ∀ (vals : Nat → Value) (w : World) (a : Act), G w → (∀ k ∈ ancs l i, V k (vals 0) (vals k) w) → (∀ x ∈ o.op.operands.toList, a.eval x = lookL l a0 vals x) →
    wantedV o vals = true ∧ (o.wp P a w (fun a' w' => ∃ v, a' = a.put o.dst v ∧ V i (if i = 0 then v else vals 0) v w' ∧ R w w') Q ∨ (o.asks P a w ∧ LetsOut Q))

theorem wp_region_step {P : Program} {Q : Exit → Act → World → Prop} {l : List Oper} {a0 : Act} {id : Nat} {w0 : World} (hm : P.follows .mixedOrders = true) (V : Nat → Value → Value → World → Prop) (G : World → Prop) (R : World → World → Prop)
    (hord : ordB l = true) (hanc : ancB l = true) (hs : slotB l a0.tmps.size = true)
    (hrefl : ∀ w, R w w) (htr : ∀ w w1 w2, R w w1 → R w1 w2 → R w w2)
    (hV : ∀ i x v w w', V i x v w → R w w' → V i x v w') (hx : ∀ i x x' v w, i < l.length → i ≠ 0 → 0 ∉ ancs l i → V i x v w → V i x' v w) (hG0 : G w0.drew) (hG : ∀ w w', G w → R w w' → G w')
    (hop : ∀ i o, l[i]? = some o → HopS P Q l a0 V G R i o)
    (hend : ∀ vals w, R w0.drew w → G w → (∀ i, i < l.length → V i (vals 0) (vals i) w) → Q .normal (putList a0 l vals 0) w) :
    (Code.region id l.toArray true).wp P Q a0 w0 := by
  refine wp_region_facts (w0 := w0) hm (fun _ w w' => R w w') (fun w w' => R w w' ∧ (G w → G w')) (fun i vals w => V i (vals 0) (vals i) w) (fun _ w => G w) hord hanc hs
    (fun w => ⟨hrefl _, fun h => h⟩) ?_ (fun _ w => hrefl _) (fun _ _ => hG0) ?_ ?_ ?_ ?_ ?_
  · intro i w w1 w2 h1 h2
    exact ⟨htr _ _ _ h1.1 h2, fun hg => hG _ _ (h1.2 hg) h2⟩
  · intro i j w w' _ _ _ _ hg h2; exact hG _ _ hg h2
  · intro i j vals w w' _ _ _ _ hF h2; exact hV _ _ _ _ _ hF h2
  · intro i j vals v w hi hji hj hF
    have e : updV vals j v i = vals i := updV_ne (Ne.symm hji)
    rw [e]
    by_cases h0 : j = 0
    · subst h0
      exact hx i _ _ _ _ hi (Ne.symm hji) hj hF
    · have e0 : updV vals j v 0 = vals 0 := updV_ne (Ne.symm h0)
      rw [e0]; exact hF
  · intro i o ho vals w a hg hF ha
    obtain ⟨hw, h⟩ := hop i o ho vals w a hg hF ha
    rw [if_pos hw]
    rcases h with h | h
    · refine .inl (Oper.wp_mono (fun a' w' hK => ?_) h)
      obtain ⟨v, h1, h2, h3⟩ := hK
      refine ⟨v, h1, ?_, h3⟩
      show V i (updV vals i v 0) (updV vals i v i) w'
      rw [updV_same]
      by_cases h0 : i = 0
      · subst h0; rw [updV_same]; simpa using h2
      · rw [if_neg h0] at h2
        rw [updV_ne (Ne.symm h0)]; exact h2
    · exact .inr h
  · intro vals w hT hF
    exact hend vals w hT.1 (hT.2 hG0) hF
end Go.Proofs.YtkbfckigndkkkaaDoor
