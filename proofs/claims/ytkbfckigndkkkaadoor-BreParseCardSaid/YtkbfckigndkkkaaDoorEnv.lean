/-
  The library's variables that the program reads, and that nothing turns them.
-/
import Derived.Test.YtkbfckigndkkkaaDoorBw2
import Derived.Test.YtkbfckigndkkkaaDoorBs
namespace Go.Proofs.YtkbfckigndkkkaaDoor
set_option linter.unusedSimpArgs false
set_option linter.unusedVariables false
open Go Go.RowKit

/-- What the library's variables hold. -/
structure Env (w : World) : Prop where
  ml : ∃ m, w.cell? ⟨0, 0, none⟩ = some (.int .i64 m)
theorem Env.keep {w w' : World} (h : Env w) (hk : ∀ k, k < 4 → w'.heap[k]? = w.heap[k]?) : Env w' :=
  ⟨let ⟨m, hm⟩ := h.ml; ⟨m, by rw [World.cell?_of_block (w := w) (hk _ (by decide))]; exact hm⟩⟩
theorem Env.upd {w w' : World} {S : Nat → Option Obj → Prop} (h : Env w) (hU : Upd S w w') (hs : 4 ≤ w.heap.size) (hS : ∀ k o, S k o → 4 ≤ k) : Env w' :=
  h.keep fun k hk => hU.block k (by omega) fun hs => by have := hS _ _ hs; omega
theorem Env.below {w w' : World} {B : Nat} (h : Env w) (hU : Below B w w') (hs : 4 ≤ B) : Env w' :=
  h.keep fun k hk => hU.block k (by omega)
theorem Env.sp {w w' : World} {b : Nat} (h : Env w) (hU : Upd (SP b) w w') (hb : 4 ≤ b) (hs : b < w.heap.size) : Env w' :=
  h.upd hU (by omega) fun k o hk => by rcases hk with hk | ⟨hk, -⟩ <;> omega
/-- What 'row' leaves. -/
def OutR (b : Nat) (w : World) : Option (Fo × PSt) → Ending → World → Prop
  | none, e, w' => e = .panicked nonePanic ∧ Upd (SP b) w w'
  | some (fo, st'), e, w' => ∃ v, e = .returned v ∧ Rep (fun j => w.heap.size ≤ j) 41 w' v fo ∧ StW w' b st' ∧ Upd (SP b) w w'
def RowSaid (n : Nat) : Prop := ∀ (w : World) (b : Nat) (st : PSt), StW w b st → Env w → 4 ≤ b → 0 ≤ st.m → st.m ≤ 200 → 0 ≤ st.g → st.g ≤ 9 → (st.opn.length : Int) ≤ st.g → st.left.length < n → st.left.length ≤ 1000 →
  Calls Tryd.prog 13 #[.pointer (some ⟨b, 0, none⟩)] w (OutR b w (rowS n st .nil))
def ClsSaid : Prop := ∀ (w : World) (s : ByteArray), Env w → 4 ≤ w.heap.size → s.size ≤ 1000 →
  Calls Tryd.prog 26 #[.string s, .int .i64 0] w fun e w' => (match clsParse s.data.toList with
    | none => ∃ f, e = .returned (.tuple #[.agg (setA f), .int .i64 0, .int .i64 90])
    | some (f, rest) => e = .returned (.tuple #[.agg (setA f), .int .i64 ((s.size : Int) - rest.length), .int .i64 0])) ∧ Below w.heap.size w w'
theorem OpenAt.setP {w : World} {b : Nat} {ov : Value} {zs : List Int} (h : OpenAt w b ov zs) (i : Nat) (v : Value) : OpenAt (w.setCell ⟨b, i, none⟩ v) b ov zs :=
  h.keep (Keep.setCell _ _ fun k (hk : b < k) _ => Nat.ne_of_gt hk)
theorem int1 : ∃ i : TypeInfo, Tryd.prog.info? 3 = some i ∧ i.zero = some (.int .i64 0) ∧ i.size = 1 ∧ i.bytes = 8 := info_parts (by kernel_rfl)
theorem first_byte {s : ByteArray} {c : UInt8} {t : List UInt8} (h : s.data.toList = c :: t) (hp : 0 < s.size) : s[0]'hp = c := by
  show s.data[0] = c
  have h1 : s.data.toList[0]? = some c := by rw [h]; rfl
  rw [Array.getElem?_toList, Array.getElem?_eq_getElem (by exact hp)] at h1
  exact Option.some.inj h1
end Go.Proofs.YtkbfckigndkkkaaDoor
