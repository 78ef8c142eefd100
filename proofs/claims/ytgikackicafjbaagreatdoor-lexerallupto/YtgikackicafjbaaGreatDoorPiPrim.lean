/- Library functions whose answers laws tell. -/
import Derived.Test.YtgikackicafjbaaGreatDoorPiLevel
import Derived.Below
set_option linter.unusedVariables false
set_option linter.unusedSimpArgs false
namespace Go.Pi
open Go.RowKit (Below)

def PrimW (P : Program) (glob : Nat → Option PVal) (f : FuncId) (args : List PVal) (x : PVal) : Prop :=
  ∀ (w : World) (L : Nat → Nat) (vs : List Value), (∀ b, w.heap.size ≤ b → L b = 0) → (∀ g x, glob g = some x → Rep w L [] (.pointer (some ⟨g, 0, none⟩)) (.ref x)) → vs.length = args.length →
    (∀ (i : Nat) (v : Value) (p : PVal), vs[i]? = some v → args[i]? = some p → Rep w L [] v p) →
    Calls P f vs.toArray w fun e w' => ∃ v L', e = .returned v ∧ Quiet w L w' L' ∧ Rep w' L' [] v x

theorem primW_callOK {P : Program} {glob : Nat → Option PVal} {f : FuncId} {args : List PVal} {x : PVal} (h0 : ∃ fn, P.funcs[f]? = some fn ∧ (fn.name == "runtime.NumGoroutine") = false ∧ fn.body.isNone = false) (hp : PrimW P glob f args x) : CallOK P glob f args [] { v := x, o := [], h := [] } := by
  refine ⟨h0, fun w L m tch vs hs hgl => ?_⟩
  have hm : m = [] := List.eq_nil_of_length_eq_zero hs.hrel.len
  subst hm
  have := hp w L vs.toList hs.new hgl (by simpa [argSt] using hs.vlen) (fun i v p hv hq => hs.rep i v p (by simpa using hv) hq)
  rw [show vs.toList.toArray = vs by simp] at this
  refine this.mono fun e w' he => ?_
  obtain ⟨v, L', rfl, q, hrep⟩ := he
  have hq := hs.quiet q
  refine ⟨v, L', [], rfl, { hq with vlen := rfl, olen := rfl, al := fun t hm ht hh => ?_, rep := fun t u p hu hp => ?_, own := ?_ }⟩
  · have : t = 0 := by simpa [resSt] using ht
    subst this
    cases hh
  · have ht0 : t = 0 := by have := (Array.getElem?_eq_some_iff.1 hu).1; simpa using this
    subst ht0
    simp [resSt] at hu hp
    subst hu; subst hp
    exact hrep
  · have no : ∀ {who : Who} {u : Value} {sz : Nat}, ¬ Holds w' [] (resSt { v := x, o := [], h := [] }) #[v] who u sz := by
      intro who u sz hh
      cases hh with
      | slot t j val pv _ _ xs hv hp ho hc hq =>
        have ht0 : t = 0 := by have := (Array.getElem?_eq_some_iff.1 hv).1; simpa using this
        subst ht0
        simp [resSt] at ho
      | cell i j ob b cur e _ _ xs hi hb => simp at hb
    exact ⟨fun who u sz hh => absurd hh no, fun p q va vb sa sb k h1 => absurd h1 no⟩

/-- What lay below stands. -/
theorem quiet_of_below {w w' : World} {L : Nat → Nat} (hn : ∀ b, w.heap.size ≤ b → L b = 0) (h : Below w.heap.size w w') : Quiet w L w' L :=
  ⟨h.os, h.tape, h.output, h.size, fun b hb => ⟨h.block b hb, rfl⟩, fun b hb => hn b (Nat.le_trans h.size hb)⟩

theorem rep_str_inv {w : World} {L : Nat → Nat} {m : List Nat} {v : Value} {s : List UInt8} (h : Rep w L m v (.str s)) : ∃ b : ByteArray, v = .string b ∧ b.data.toList = s := by
  cases h with
  | str b => exact ⟨b, rfl, rfl⟩
theorem rep_int_inv {w : World} {L : Nat → Nat} {m : List Nat} {v : Value} {k : IntKind} {n : Int} (h : Rep w L m v (.int k n)) : v = .int k n := by
  cases h with
  | int k n => rfl

theorem mkStr_rep {w : World} {L : Nat → Nat} {m : List Nat} (l : List UInt8) : Rep w L m (.string ⟨l.toArray⟩) (.str l) := by
  have := Rep.str (w := w) (L := L) (m := m) ⟨l.toArray⟩
  simpa using this

/-- An answer that is a value, of arguments that lead to nothing. -/
def primA (g : List PVal → Tree PVal) : Ans := fun args h => match h with
  | [] => (g args).bind fun x => .ret { v := x, o := [], h := [] }
  | _ => .fail

theorem primA_ok {l : Lib} {f : FuncId} {fn : Func} (hf : l.P.funcs[f]? = some fn) (hname : (fn.name == "runtime.NumGoroutine") = false) (hb : fn.body.isNone = false) {g : List PVal → Tree PVal}
    (h : ∀ args x, (g args).run = some x → PrimW l.P l.glob f args x) : l.AnsOK f (primA g) := by
  intro args hh r hr
  unfold primA at hr
  split at hr
  · obtain ⟨x, hx, h2⟩ := tree_bind_some hr
    have := run_ret_inv h2
    subst this
    exact primW_callOK ⟨fn, hf, hname, hb⟩ (h args x hx)
  · cases hr

/-- Cells of a table. -/
theorem tab_cell {w : World} {L : Nat → Nat} {g : Nat} {k : IntKind} {zs : List Int} (h : Rep w L [] (.pointer (some ⟨g, 0, none⟩)) (.ref (.agg (zs.map (.int k))))) (i : Nat) (hi : i < zs.length) : w.cell? ⟨g, i, none⟩ = some (.int k (zs.getD i 0)) := by
  cases h with
  | ref b o x cv hcell hone hL h hN =>
    have h1 := hcell i (by simpa [PVal.cells] using hi)
    have h2 := h i (.int k (zs.getD i 0)) (by simp [PVal.cells, List.getD, hi])
    rw [rep_int_inv h2] at h1
    simpa using h1

theorem one_cell {w : World} {L : Nat → Nat} {g : Nat} {k : IntKind} {z : Int} (h : Rep w L [] (.pointer (some ⟨g, 0, none⟩)) (.ref (.int k z))) : w.cell? ⟨g, 0, none⟩ = some (.int k z) := by
  cases h with
  | ref b o x cv hcell hone hL h hN =>
    have h1 := hcell 0 (by simp [PVal.cells])
    have h2 := h 0 (.int k z) (by simp [PVal.cells])
    rw [rep_int_inv h2] at h1
    simpa using h1

end Go.Pi
