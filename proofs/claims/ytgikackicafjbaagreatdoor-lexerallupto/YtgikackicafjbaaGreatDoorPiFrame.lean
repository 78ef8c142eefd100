/- From the machine's world to a call's answer. -/
import Derived.Test.YtgikackicafjbaaGreatDoorPiPrim
set_option linter.unusedVariables false
set_option linter.unusedSimpArgs false
namespace Go.Pi
open Go.RowKit (Below)

theorem start_world {w : World} {L : Nat → Nat} {args : List PVal} {vs : List Value} (hn : ∀ b, w.heap.size ≤ b → L b = 0) (hl : vs.length = args.length) (hr : ∀ (i : Nat) (v : Value) (p : PVal), vs[i]? = some v → args[i]? = some p → Rep w L [] v p) :
    Sim ⟨w, L, [], fun _ => False⟩ w L [] (argSt args []) { tmps := vs.toArray, defers := [] } := by
  have no : ∀ {who : Who} {u : Value} {sz : Nat}, ¬ Holds w [] (argSt args []) vs.toArray who u sz := by
    intro who u sz hh
    cases hh with
    | slot t j val pv _ _ xs hv hp ho hc hq =>
      simp only [argSt, List.getD_eq_getElem?_getD, List.getElem?_map] at ho
      cases hx : args[t]? <;> rw [hx] at ho <;> simp at ho
    | cell i j ob b cur e _ _ xs hi hb => simp at hb
  exact {
    defers := rfl
    vlen := by simpa [argSt] using hl
    olen := by simp [argSt]
    al := fun t hm ht hh => by
      simp only [argSt, List.getD_eq_getElem?_getD, List.getElem?_map] at hh
      cases hx : args[t]? <;> rw [hx] at hh <;> cases hh
    rep := fun t v p hv hp => hr t v p (by simpa using hv) hp
    hrel := ⟨rfl, by simp, fun i ob b hi => by simp [argSt] at hi⟩
    own := ⟨fun who u sz hh => absurd hh no, fun p q va vb sa sb k h1 => absurd h1 no⟩
    new := hn
    ext := Ext.refl _ _ _
    os := rfl
    tape := rfl
    out := rfl
    size := Nat.le_refl _
    old := fun b _ _ => ⟨rfl, rfl⟩
    objs := fun b hb => by simp at hb }

theorem calls_of_callOK {P : Program} {glob : Nat → Option PVal} {f : FuncId} {args : List PVal} {r : CR} (h : CallOK P glob f args [] r) {w : World} {L : Nat → Nat} {vs : List Value} (hn : ∀ b, w.heap.size ≤ b → L b = 0) (hl : vs.length = args.length)
    (hr : ∀ (i : Nat) (v : Value) (p : PVal), vs[i]? = some v → args[i]? = some p → Rep w L [] v p) (hg : ∀ g x, glob g = some x → Rep w L [] (.pointer (some ⟨g, 0, none⟩)) (.ref x)) :
    Calls P f vs.toArray w fun e w' => ∃ v L' m', e = .returned v ∧ Below w.heap.size w w' ∧ Rep w' L' m' v r.v := by
  refine (h.2 w L [] (fun _ => False) vs.toArray (start_world hn hl hr) hg).mono fun e w' ⟨v, L', m', he, hs⟩ => ⟨v, L', m', he, ⟨hs.os, hs.tape, hs.out, hs.size, fun k hk => (hs.old k hk (fun h => h)).1⟩, hs.rep 0 v r.v rfl rfl⟩

/-- A table that lies in memory. -/
theorem tab_ref {w : World} {L : Nat → Nat} {g : Nat} {k : IntKind} {zs : List Int} (hL : zs.length ≤ L g) (h : ∀ i, i < zs.length → w.cell? ⟨g, i, none⟩ = some (.int k (zs.getD i 0))) : Rep w L [] (.pointer (some ⟨g, 0, none⟩)) (.ref (.agg (zs.map (.int k)))) := by
  refine .ref g 0 _ (fun q => .int k (zs.getD q 0)) (fun q hq => ?_) (fun q hq => rfl) ?_ (fun j p hp => ?_) (fun j p hp => ?_)
  · rw [Nat.zero_add]; exact h q (by simpa [PVal.cells] using hq)
  · simpa [PVal.cells] using hL
  · simp only [PVal.cells, List.getElem?_map] at hp
    cases hz : zs[j]? with
    | none => rw [hz] at hp; cases hp
    | some z =>
      rw [hz] at hp; injection hp with hp; subst hp
      have : zs.getD j 0 = z := by simp [List.getD_eq_getElem?_getD, hz]
      rw [this]; exact .int _ _
  · simp only [PVal.cells, List.getElem?_map] at hp
    cases hz : zs[j]? with
    | none => rw [hz] at hp; cases hp
    | some z => rw [hz] at hp; injection hp with hp; subst hp; exact .int _ _

theorem one_ref {w : World} {L : Nat → Nat} {g : Nat} {k : IntKind} {z : Int} (hL : 1 ≤ L g) (h : w.cell? ⟨g, 0, none⟩ = some (.int k z)) : Rep w L [] (.pointer (some ⟨g, 0, none⟩)) (.ref (.int k z)) := by
  refine .ref g 0 _ (fun _ => .int k z) (fun q hq => ?_) (fun q hq => rfl) ?_ (fun j p hp => ?_) (fun j p hp => ?_)
  · have : q = 0 := by simpa [PVal.cells] using hq
    subst this; exact h
  · simpa [PVal.cells] using hL
  · cases j <;> simp [PVal.cells] at hp
    subst hp; exact .int _ _
  · cases j <;> simp [PVal.cells] at hp
    subst hp; exact .int _ _

end Go.Pi
