/- '==' of structs. -/
import Derived.Test.YtgikackicafjbaaGreatDoorPiEnv
import Derived.Laws.StructEq
set_option linter.unusedVariables false
set_option linter.unusedSimpArgs false
namespace Go.Pi

variable {P : Program} {w : World} {L : Nat → Nat} {m : List Nat}

def eqTyF (P : Program) (rec : TypeId → List PVal → Bool) : List Field → Nat → List PVal → Bool
  | [], off, zs => off == zs.length
  | f :: fs, off, zs => f.name != "_" && f.offset == off && (match TY P f.type with
    | some fi => rec f.type ((zs.drop off).take fi.size) && decide (off + fi.size ≤ zs.length) && (fi.d.isAgg || fi.size == 1) && eqTyF P rec fs (off + fi.size) zs
    | none => false)

/-- May values of this type be held against each other cell by cell? -/
def eqTy (P : Program) : Nat → TypeId → List PVal → Bool
  | 0, _, _ => false
  | d + 1, t, zs => match TY P t with
    | some { d := .bool, .. } => (match zs with | [.bool _] => true | _ => false)
    | some { d := .int _, .. } => (match zs with | [.int _ _] => true | _ => false)
    | some { d := .str, .. } => (match zs with | [.str _] => true | _ => false)
    | some { d := .struct _, .. } => !(P.stoodInHeld t) && eqTyF P (eqTy P d) (P.fieldsOf t).toList 0 zs
    | _ => false

theorem eqCells_append : ∀ {a c b d : List PVal} {r : Bool}, a.length = c.length → eqCells (a ++ b) (c ++ d) = some r → ∃ r1 r2, eqCells a c = some r1 ∧ eqCells b d = some r2 ∧ r = (r1 && r2)
  | [], [], b, d, r, _, h => ⟨true, r, rfl, h, by simp⟩
  | x :: a, y :: c, b, d, r, hl, h => by
    simp only [List.cons_append, eqCells] at h
    split at h
    · rename_i p q hp hq
      obtain ⟨r1, r2, h1, h2, rfl⟩ := eqCells_append (by simpa using hl) hq
      injection h with h
      exact ⟨p && r1, r2, by simp [eqCells, hp, h1], h2, by rw [← h, Bool.and_assoc]⟩
    · cases h
  | [], _ :: _, _, _, _, hl, _ => by simp at hl
  | _ :: _, [], _, _, _, hl, _ => by simp at hl

theorem fitL_len : ∀ {zs xs : List PVal}, fitL zs xs = true → zs.length = xs.length
  | [], [], _ => rfl
  | z :: zs, x :: xs, h => by simp only [fitL, Bool.and_eq_true] at h; simp [fitL_len h.2]
  | [], _ :: _, h => by simp [fitL] at h
  | _ :: _, [], h => by simp [fitL] at h

theorem fitL_drop : ∀ {zs xs : List PVal} (n : Nat), fitL zs xs = true → fitL (zs.drop n) (xs.drop n) = true
  | zs, xs, 0, h => by simpa using h
  | [], [], n + 1, h => by simp [fitL]
  | z :: zs, x :: xs, n + 1, h => by simp only [fitL, Bool.and_eq_true] at h; simpa using fitL_drop n h.2
  | [], _ :: _, _, h => by simp [fitL] at h
  | _ :: _, [], _, h => by simp [fitL] at h

theorem fitL_take : ∀ {zs xs : List PVal} (n : Nat), fitL zs xs = true → fitL (zs.take n) (xs.take n) = true
  | zs, xs, 0, h => by simp [fitL]
  | [], [], n + 1, h => by simp [fitL]
  | z :: zs, x :: xs, n + 1, h => by simp only [fitL, Bool.and_eq_true] at h; simp only [List.take_succ_cons, fitL, Bool.and_eq_true]; exact ⟨h.1, fitL_take n h.2⟩
  | [], _ :: _, _, h => by simp [fitL] at h
  | _ :: _, [], _, h => by simp [fitL] at h

def Shape (agg : Bool) (p : PVal) : Prop := if agg then ∃ cs, p = .agg cs else p.cells = [p]

def kindly : PVal → Bool
  | .int _ _ => true
  | .bool _ => true
  | .str _ => true
  | _ => false

theorem eqTy_one {d : Nat} {t : TypeId} {i : TI} {z : PVal} (h : eqTy P d t [z] = true) (hi : TY P t = some i) (ha : i.d.isAgg = false) : kindly z = true := by
  cases d with
  | zero => cases h
  | succ d =>
    unfold eqTy at h
    rw [hi] at h
    split at h
    · cases z <;> first | rfl | cases h
    · cases z <;> first | rfl | cases h
    · cases z <;> first | rfl | cases h
    · rename_i e; injection e with e; subst e; cases ha
    · cases h

/-- What it says of every type. -/
def EqSays (P : Program) (d : Nat) : Prop := ∀ (t : TypeId) (i : TI) (zs : List PVal) (p q : PVal) (v u : Value) (r : Bool) (D : Nat) (w : World) (L : Nat → Nat) (m : List Nat), TY P t = some i → eqTy P d t zs = true → fitL zs p.cells = true → fitL zs q.cells = true →
  Shape i.d.isAgg p → Shape i.d.isAgg q → Rep w L m v p → Rep w L m u q → eqCells p.cells q.cells = some r → d ≤ D → (Op.equalIn D t v u).run P w = .ok r w

theorem eqFields_says {d D : Nat} (ih : EqSays P d) (hD : d ≤ D) {xs ys : Array Value} {ps qs zs : List PVal} (hx : Rep w L m (.agg xs) (.agg ps)) (hy : Rep w L m (.agg ys) (.agg qs)) (fx : fitL zs ps = true) (fy : fitL zs qs = true) :
    ∀ (fs : List Field) (off : Nat) (r : Bool), eqTyF P (eqTy P d) fs off zs = true → eqCells (ps.drop off) (qs.drop off) = some r → (Op.eqFields D xs ys fs).run P w = .ok r w
  | [], off, r, h, hr => by
    simp only [eqTyF, beq_iff_eq] at h
    have l1 := fitL_len fx
    have l2 := fitL_len fy
    rw [List.drop_eq_nil_of_le (by omega), List.drop_eq_nil_of_le (by omega)] at hr
    simp [eqCells] at hr
    simp [Op.eqFields, hr]
  | f :: fs, off, r, h, hr => by
    simp only [eqTyF, Bool.and_eq_true, bne_iff_ne, beq_iff_eq] at h
    obtain ⟨⟨hn, rfl⟩, h⟩ := h
    split at h
    · rename_i fi hfi
      simp only [Bool.and_eq_true, decide_eq_true_eq, Bool.or_eq_true, beq_iff_eq] at h
      obtain ⟨⟨⟨h1, h2⟩, h3⟩, h4⟩ := h
      have l1 := fitL_len fx
      have l2 := fitL_len fy
      -- the part of each
      have one : ∀ {xs : Array Value} {ps : List PVal}, Rep w L m (.agg xs) (.agg ps) → fitL zs ps = true → ∃ v p, (Go.part f.type xs f.offset).run P w = .ok v w ∧ Rep w L m v p ∧ p.cells = (ps.drop f.offset).take fi.size ∧ Shape fi.d.isAgg p := by
        intro xs ps hx fx
        have l1 := fitL_len fx
        cases hx with
        | agg _ _ hl hh =>
          cases ha : fi.d.isAgg with
          | true =>
            have hp : (part (TY P) f.type ps f.offset).run = some (.agg ((ps.drop f.offset).take fi.size)) := by
              unfold part; rw [hfi]; simp only [ha, if_true]; rw [if_pos (by omega)]; rfl
            obtain ⟨v, hv, hr⟩ := part_sound hl hh hp
            exact ⟨v, _, hv, hr, rfl, by simp [Shape]⟩
          | false =>
            have hs : fi.size = 1 := by rw [ha] at h3; simpa using h3
            have hlt : f.offset < ps.length := by omega
            have hp : (part (TY P) f.type ps f.offset).run = some (ps.getD f.offset .junk) := by
              unfold part; rw [hfi]; simp only [ha, Bool.false_eq_true, if_false]; rw [if_pos hlt]; rfl
            obtain ⟨v, hv, hr⟩ := part_sound hl hh hp
            have hpe : (ps.drop f.offset).take fi.size = [ps.getD f.offset .junk] := by
              rw [hs, List.drop_eq_getElem_cons hlt]
              show [ps[f.offset]] = [ps.getD f.offset .junk]
              rw [List.getD_eq_getElem?_getD, List.getElem?_eq_getElem hlt]
              rfl
            have hz : ∃ z, (zs.drop f.offset).take fi.size = [z] := by
              rw [hs, List.drop_eq_getElem_cons (show f.offset < zs.length by omega)]
              exact ⟨_, rfl⟩
            obtain ⟨z, hz⟩ := hz
            have hfit := fitL_take fi.size (fitL_drop f.offset fx)
            rw [hpe, hz] at hfit
            rw [hz] at h1
            have hone : (ps.getD f.offset .junk).cells = [ps.getD f.offset .junk] := by
              have := eqTy_one h1 hfi ha
              generalize ps.getD f.offset .junk = p0 at hfit
              simp only [fitL, Bool.and_true] at hfit
              cases z <;> first | (cases this; done) | skip
              all_goals cases p0 <;> first | rfl | (simp [fitC] at hfit)
            exact ⟨v, _, hv, hr, by rw [hpe]; exact hone, by simpa [Shape] using hone⟩
      obtain ⟨v, p, hv, hvp, hpc, hps⟩ := one hx fx
      obtain ⟨u, q, hu, huq, hqc, hqs⟩ := one hy fy
      have e1 : ps.drop f.offset = p.cells ++ ps.drop (f.offset + fi.size) := by rw [hpc, ← List.drop_drop, List.take_append_drop]
      have e2 : qs.drop f.offset = q.cells ++ qs.drop (f.offset + fi.size) := by rw [hqc, ← List.drop_drop, List.take_append_drop]
      rw [e1, e2] at hr
      obtain ⟨r1, r2, g1, g2, rfl⟩ := eqCells_append (by rw [hpc, hqc]; simp; omega) hr
      have he := ih f.type fi _ p q v u r1 D w L m hfi h1 (by rw [hpc]; exact fitL_take _ (fitL_drop _ fx)) (by rw [hqc]; exact fitL_take _ (fitL_drop _ fy)) hps hqs hvp huq g1 hD
      have hrest := eqFields_says ih hD hx hy fx fy fs (f.offset + fi.size) r2 h4 g2
      simp only [Op.eqFields, if_pos hn, Sem.run_bind, hv, hu, he, Result.andThen_ok]
      cases r1 <;> simp [hrest]
    · cases h

theorem eqTy_says : ∀ d, EqSays P d
  | 0 => fun t i zs p q v u r D w L m hi h => by cases h
  | d + 1 => fun t i zs p q v u r D w L m hi h fp fq sp sq hv hu hr hD => by
    have ih := eqTy_says d
    obtain ⟨D, rfl⟩ : ∃ k, D = k + 1 := ⟨D - 1, by omega⟩
    unfold eqTy at h
    rw [hi] at h
    split at h
    · rename_i e
      injection e with e
      subst e
      obtain ⟨_, ds, _, _, hun, hd, _⟩ := TY_inv hi
      have hds : ds = .bool := by cases ds <;> first | rfl | (simp [tdOf] at hd)
      subst hds
      split at h
      · have hp : p.cells = [p] := sp
        have hq : q.cells = [q] := sq
        rw [hp] at fp hr
        rw [hq] at fq hr
        cases p <;> simp [fitL, fitC] at fp
        cases q <;> simp [fitL, fitC] at fq
        cases hv; cases hu
        simp [eqCells, eqCell] at hr
        rw [run_equalIn_bool' w D t _ _ hun, hr]
      · cases h
    · rename_i k e
      injection e with e
      subst e
      obtain ⟨_, ds, _, _, hun, hd, _⟩ := TY_inv hi
      rw [td_int hd] at hun
      split at h
      · have hp : p.cells = [p] := sp
        have hq : q.cells = [q] := sq
        rw [hp] at fp hr
        rw [hq] at fq hr
        cases p <;> simp [fitL, fitC] at fp
        cases q <;> simp [fitL, fitC] at fq
        subst fp; subst fq
        cases hv; cases hu
        simp [eqCells, eqCell] at hr
        rw [run_equalIn_int w D t _ _ _ _ hun, hr]
      · cases h
    · rename_i e
      injection e with e
      subst e
      obtain ⟨_, ds, _, _, hun, hd, _⟩ := TY_inv hi
      rw [td_str hd] at hun
      split at h
      · have hp : p.cells = [p] := sp
        have hq : q.cells = [q] := sq
        rw [hp] at fp hr
        rw [hq] at fq hr
        cases p <;> simp [fitL, fitC] at fp
        cases q <;> simp [fitL, fitC] at fq
        cases hv; cases hu
        simp [eqCells, eqCell] at hr
        rw [run_equalIn_string w D t _ _ hun, ByteArray.toList_eq, ByteArray.toList_eq, ← hr]
        simp
      · cases h
    · rename_i fs e
      injection e with e
      subst e
      obtain ⟨F, hun, _⟩ := structFields hi
      simp only [Bool.and_eq_true, Bool.not_eq_true'] at h
      obtain ⟨ps, rfl⟩ : ∃ cs, p = .agg cs := sp
      obtain ⟨qs, rfl⟩ : ∃ cs, q = .agg cs := sq
      simp only [PVal.cells] at fp fq hr
      have hfo : P.fieldsOf t = F := by unfold Program.fieldsOf; rw [hun]
      cases hv with
      | agg xs _ h1 h2 => cases hu with
        | agg ys _ h3 h4 =>
          rw [run_equalIn_struct w D t xs ys (by rw [hfo]; exact hun) h.1]
          exact eqFields_says ih (by omega) (.agg xs ps h1 h2) (.agg ys qs h3 h4) fp fq _ 0 r h.2 (by simpa using hr)
    · cases h

/-- The types whose values may be held against each other cell by cell. -/
def eqOf (P : Program) (t : TypeId) : Bool := match TY P t with | some i => i.d.isAgg && eqTy P 20 t i.zero && !(P.eqGuardType P.depth t) | none => false

theorem eqOf_ok : EqtOK P (eqOf P) := by
  intro t w L m xs ys ps qs r i h hi fp fq hx hy hr
  unfold eqOf at h
  rw [hi] at h
  simp only [Bool.and_eq_true, Bool.not_eq_true'] at h
  refine ⟨?_, h.2⟩
  exact eqTy_says 20 t i i.zero (.agg ps) (.agg qs) _ _ r 10000 w L m hi h.1.2 fp fq (by rw [h.1.1]; exact ⟨_, rfl⟩) (by rw [h.1.1]; exact ⟨_, rfl⟩) hx hy hr (by omega)

end Go.Pi
