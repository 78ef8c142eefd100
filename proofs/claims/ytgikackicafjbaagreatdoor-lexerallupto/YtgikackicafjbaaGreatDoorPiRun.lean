/- One operation: the plain state goes on as the machine does. -/
import Derived.Test.YtgikackicafjbaaGreatDoorPiCall
set_option linter.unusedVariables false
set_option linter.unusedSimpArgs false
namespace Go.Pi

variable {P : Program} {E : Env} {c : Ctx} {w : World} {L : Nat → Nat} {m : List Nat} {s s' : St} {a : Act} {o : Oper}

def Goes (P : Program) (c : Ctx) (o : Oper) (w : World) (a : Act) (s' : St) : Prop :=
  ∀ (K : Act → World → Prop) (Q : Exit → Act → World → Prop), (∀ (a' : Act) (w' : World) (L' : Nat → Nat) (m' : List Nat), Sim c w' L' m' s' a' → K a' w') → o.wp P a w K Q

theorem goes_value {v : Value} {w' : World} {L' : Nat → Nat} {m' : List Nat} (h : (execOp a.eval o).run P w = .ok (.value v) w') (hs : Sim c w' L' m' s' (a.put o.dst v)) : Goes P c o w a s' := by
  intro K Q hK
  unfold Oper.wp
  rw [h]
  exact hK _ _ _ _ hs

theorem goes_skip {w' : World} {L' : Nat → Nat} {m' : List Nat} (h : (execOp a.eval o).run P w = .ok .skip w') (hs : Sim c w' L' m' s' (a.put o.dst undef)) : Goes P c o w a s' := by
  intro K Q hK
  unfold Oper.wp
  rw [h]
  exact hK _ _ _ _ hs

theorem run_v {x : Sem Value} {v : Value} {w' : World} (h : x.run P w = .ok v w') : (do pure (Next.value (← x)) : Sem Next).run P w = .ok (.value v) w' := by
  rw [Sem.run_bind, h]; rfl

theorem put_bind {d : Option Tmp} {t : Tree PVal} (h : (t.bind fun x => Tree.ret (s.put d x)).run = some s') : ∃ x, t.run = some x ∧ s' = s.put d x := by
  obtain ⟨x, hx, h⟩ := tree_bind_some h
  exact ⟨x, hx, (run_ret_inv h).symm⟩

theorem orep {E : Env} (hg : GlobOK E c) (h : Sim c w L m s a) (x : Option Operand) : ORep w L m (x.map a.eval) (x.map (ev E s)) := by
  cases x with
  | none => exact .none
  | some x => exact .some (ev_rep hg h x)

theorem prep {E : Env} (hg : GlobOK E c) (h : Sim c w L m s a) (parts : Array (Nat × Operand)) : PRep w L m (parts.map fun (i, x) => (i, a.eval x)).toList (parts.toList.map fun (i, x) => (i, ev E s x)) := by
  refine ⟨by simp, fun i v p hv hp => ?_⟩
  simp only [Array.toList_map, List.getElem?_map] at hv hp
  cases hx : parts.toList[i]? with
  | none => rw [hx] at hv; cases hv
  | some x =>
    rw [hx] at hv hp
    simp at hv hp
    subst hv; subst hp
    exact ⟨rfl, ev_rep hg h _⟩

def Home.who : Home → Who
  | .slot x => .slot x 0
  | .cell id off => .cell id off

/-- The holder that 'home' finds holds the very slice. -/
theorem home_holds (h : Sim c w L m s a) {t : Nat} {hm : Home} (hh : home t s = some hm) {sz : Nat} {xs : List PVal} (hx : s.get t = .sl sz xs) {vx : Value} (hv : vx = a.tmps.getD t undef) :
    ∃ who, Holds w m s a.tmps who vx sz ∧ who = hm.who := by
  have hlt : t < s.v.length := by
    rcases Nat.lt_or_ge t s.v.length with h1 | h1
    · exact h1
    · simp only [St.get, List.getD_eq_getElem?_getD, List.getElem?_eq_none h1] at hx; cases hx
  have hlt2 : t < a.tmps.size := by rw [h.vlen]; exact hlt
  have hp : s.v[t]? = some (.sl sz xs) := by
    simp only [St.get, List.getD_eq_getElem?_getD, List.getElem?_eq_getElem hlt] at hx
    rw [List.getElem?_eq_getElem hlt]; simpa using hx
  have hvv : a.tmps[t]? = some vx := by rw [hv]; simp [Array.getD_eq_getD_getElem?, Array.getElem?_eq_getElem hlt2]
  have hrep := h.rep t vx _ hvv hp
  have hcv : compV vx 0 = some vx := by cases hrep <;> rfl
  unfold home at hh
  split at hh
  · rename_i ho
    injection hh with hh
    subst hh
    exact ⟨.slot t 0, .slot t 0 vx _ vx sz xs hvv hp ho hcv rfl, rfl⟩
  · split at hh
    · rename_i x hal
      split at hh
      · rename_i ho
        injection hh with hh
        subst hh
        obtain ⟨h1, h2⟩ := h.al t _ hlt hal
        exact ⟨.slot x 0, .slot x 0 vx _ vx sz xs (by rw [← h1]; exact hvv) (by rw [← h2]; exact hp) ho hcv rfl, rfl⟩
      · cases hh
    · rename_i id off hal
      split at hh
      · rename_i ob hob
        split at hh
        · rename_i ho
          injection hh with hh
          subst hh
          obtain ⟨ob', b, cur, h1, h2, h3, h4, h5⟩ := h.al t _ hlt hal
          rw [hob] at h1
          injection h1 with h1
          subst h1
          exact ⟨.cell id off, .cell id off ob b cur _ vx sz xs hob h2 h3 (by rw [h4]; exact hvv) (by rw [h5]; exact hp) ho, rfl⟩
        · cases hh
      · cases hh
    · cases hh

/-- Without the holder nobody's tail is the slice's. -/
theorem clear_sim (h : Sim c w L m s a) {hm : Home} {who : Who} {vx : Value} {sz : Nat} (hw : Holds w m s a.tmps who vx sz) (he : who = hm.who) :
    Sim c w L m (clearHome s hm) a ∧ (∀ (q : Who) (u : Value) (sz' : Nat), Holds w m (clearHome s hm) a.tmps q u sz' → ∀ k, tailBlk u = some k → tailBlk vx ≠ some k) ∧ (clearHome s hm).v = s.v := by
  cases hm with
  | slot x =>
    simp only [Home.who] at he
    subst he
    refine ⟨h.unown x, fun q u sz' hq k hk hk' => ?_, rfl⟩
    obtain ⟨h1, h2⟩ := holds_unown hq
    exact h2 0 (h.own.apart _ _ u vx sz' sz k h1 hw hk hk')
  | cell id off =>
    simp only [Home.who] at he
    subst he
    cases hw with
    | cell _ _ ob b cur e _ _ xs hi hb hp hv hq ho =>
    simp only [clearHome, hi]
    have hlt : id < s.h.length := (List.getElem?_eq_some_iff.1 hi).1
    have inv : ∀ (q : Who) (u : Value) (sz' : Nat), Holds w m { s with h := s.h.set id { ob with own := ob.own.set off false } } a.tmps q u sz' → Holds w m s a.tmps q u sz' ∧ q ≠ .cell id off := by
      intro q u sz' hq
      cases hq with
      | slot t j val pv _ _ xs hv hp ho hc hq => exact ⟨.slot t j val pv u sz' xs hv hp ho hc hq, fun e => by cases e⟩
      | cell i j ob2 b2 cur2 e2 _ _ xs2 hi2 hb2 hp2 hv2 hq2 ho2 =>
        by_cases hie : id = i
        · subst hie
          simp only [List.getElem?_set_self hlt] at hi2
          injection hi2 with hi2
          subst hi2
          simp only at ho2 hq2
          have hj : j ≠ off := by
            rintro rfl
            rcases Nat.lt_or_ge j ob.own.length with h1 | h1
            · rw [getD_set_self _ _ _ _ h1] at ho2; cases ho2
            · rw [List.getD_eq_getElem?_getD, List.getElem?_eq_none (by simpa using h1)] at ho2; simp at ho2
          rw [getD_set_ne _ _ _ _ _ (Ne.symm hj)] at ho2
          exact ⟨.cell id j ob b2 cur2 e2 u sz' xs2 hi hb2 hp2 hv2 hq2 ho2, fun e => by injection e with _ e; exact hj e⟩
        · simp only [List.getElem?_set_ne hie] at hi2
          exact ⟨.cell i j ob2 b2 cur2 e2 u sz' xs2 hi2 hb2 hp2 hv2 hq2 ho2, fun e => by injection e with e _; exact hie e.symm⟩
    refine ⟨{ h with al := fun t hm ht hh => ?_, hrel := ?_, own := h.own.step (fun w => w) none (fun q u sz' hq => .inl ⟨(inv q u sz' hq).1, fun x hx => by cases hx⟩) (fun a b va vb sa sb _ _ hab _ => hab) (fun v sz hv _ => hv) (fun x hx => by cases hx) }, fun q u sz' hq2 k hk hk' => ?_, by trivial⟩
    · have h1 := h.al t hm ht hh
      cases hm with
      | slot x => exact h1
      | cell id2 off2 =>
        obtain ⟨ob', b', cur', h5, h6, h7, h8, h9⟩ := h1
        by_cases hie : id = id2
        · subst hie
          rw [hi] at h5
          injection h5 with h5
          subst h5
          exact ⟨{ ob with own := ob.own.set off false }, b', cur', by simp only [List.getElem?_set_self hlt], h6, h7, h8, h9⟩
        · exact ⟨ob', b', cur', by simp only [List.getElem?_set_ne hie]; exact h5, h6, h7, h8, h9⟩
    · refine ⟨by simpa using h.hrel.len, h.hrel.nodup, fun i ob2 k hi2 hk => ?_⟩
      by_cases hie : id = i
      · subst hie
        simp only [List.getElem?_set_self hlt] at hi2
        injection hi2 with hi2
        subst hi2
        exact h.hrel.obj id ob k hi hk
      · simp only [List.getElem?_set_ne hie] at hi2
        exact h.hrel.obj i ob2 k hi2 hk
    · obtain ⟨h1, h2⟩ := inv q u sz' hq2
      exact h2 (h.own.apart _ _ u vx sz' sz k h1 (.cell id off ob b cur e vx sz xs hi hb hp hv hq ho) hk hk')

end Go.Pi
set_option linter.unusedVariables false
set_option linter.unusedSimpArgs false
namespace Go.Pi

variable {P : Program} {E : Env} {c : Ctx} {w : World} {L : Nat → Nat} {m : List Nat} {s s' : St} {a : Act} {o : Oper}

/-- A right that an operand brings. -/
theorem evOwn_holds (h : Sim c w L m s a) {x : Operand} {sz : Nat} {xs : List PVal} (hx : ev E s x = .sl sz xs) (ho : (evOwn s x).getD 0 false = true) :
    (∃ t, x = .tmp t ∧ Holds w m s a.tmps (.slot t 0) (a.eval x) sz) ∨ (a.eval x = .slice none 0 0 ∧ ∀ t, x ≠ .tmp t) := by
  cases x with
  | tmp t =>
    refine .inl ⟨t, rfl, ?_⟩
    have hlt : t < s.v.length := by
      rcases Nat.lt_or_ge t s.v.length with h1 | h1
      · exact h1
      · simp only [ev, St.get, List.getD_eq_getElem?_getD, List.getElem?_eq_none h1] at hx; cases hx
    have hlt2 : t < a.tmps.size := by rw [h.vlen]; exact hlt
    have hp : s.v[t]? = some (.sl sz xs) := by
      simp only [ev, St.get, List.getD_eq_getElem?_getD, List.getElem?_eq_getElem hlt] at hx
      rw [List.getElem?_eq_getElem hlt]; simpa using hx
    have hvv : a.tmps[t]? = some (a.eval (.tmp t)) := by simp [Act.eval, Array.getD_eq_getD_getElem?, Array.getElem?_eq_getElem hlt2]
    have hrep := h.rep t _ _ hvv hp
    have hcv : compV (a.eval (.tmp t)) 0 = some (a.eval (.tmp t)) := by
      revert hrep; generalize a.eval (.tmp t) = u; intro hrep; cases hrep <;> rfl
    exact .slot t 0 _ _ _ sz xs hvv hp ho hcv rfl
  | const v =>
    refine .inr ⟨?_, fun t e => by cases e⟩
    unfold evOwn at ho
    split at ho
    · rename_i e; cases e
    · rename_i e; injection e with e
    · simp at ho
  | global g => simp [evOwn] at ho
  | func f => simp [evOwn] at ho

theorem takeOwn_v (s : St) (x : Operand) : (takeOwn s x).v = s.v ∧ (takeOwn s x).h = s.h ∧ (takeOwn s x).al = s.al ∧ (takeOwn s x).o.length = s.o.length := by
  cases x <;> simp [takeOwn, St.unown]

theorem takeOwn_sim (h : Sim c w L m s a) (x : Operand) : Sim c w L m (takeOwn s x) a := by
  cases x with
  | tmp t => exact h.unown t
  | _ => exact h

theorem takeOwn_holds {tmps : Array Value} {x : Operand} {who : Who} {u : Value} {sz : Nat} (hh : Holds w m (takeOwn s x) tmps who u sz) : Holds w m s tmps who u sz ∧ ∀ t, x = .tmp t → ∀ j, who ≠ .slot t j := by
  cases x with
  | tmp t =>
    obtain ⟨h1, h2⟩ := holds_unown hh
    exact ⟨h1, fun t' e => by injection e with e; subst e; exact h2⟩
  | const v => exact ⟨hh, fun t e => by cases e⟩
  | global g => exact ⟨hh, fun t e => by cases e⟩
  | func f => exact ⟨hh, fun t e => by cases e⟩

theorem alloc_sound (h : Sim c w L m s a) {t : TypeId} {ti : TI} (ht : TY P t = some ti) : ∃ w' v, (Instr.alloc t true (.tuple #[])).run P w = .ok v w' ∧
    Sim c w' L (m ++ [w.heap.size]) ({ s.put o.dst (.loc s.h.length 0) with h := s.h ++ [{ t, cells := ti.zero, own := ti.zero.map fun | .sl _ _ => true | _ => false }] }) (a.put o.dst v) := by
  obtain ⟨tinfo, d, z, hti, hu, hd, hs, hb, hz, hcr, hlen⟩ := zero_crep (P := P) (w := w) (L := L) (m := m) ht
  refine ⟨w.alloc (.cells z.cells t), .pointer (some ⟨w.heap.size, 0, none⟩), ?_, ?_⟩
  · simp only [Instr.alloc, Sem.run_bind, run_zeroValue hti hz, Result.andThen_ok, newVar, newRow, run_newObj, Sem.run_pure]
    rfl
  · have hn := h.newObj t z.cells ti.zero (ti.zero.map fun | .sl _ _ => true | _ => false) hcr.len hcr.one hcr.rep (fun j v sz xs ho hv hp => by
      have hz2 : ti.zero = z.cells.toList.map ofConst := by
        obtain ⟨ti', d', z', h1, _, _, _, _, h5, h6, _⟩ := TY_inv ht
        rw [hti] at h1; injection h1 with h1; subst h1
        rw [hz] at h5; injection h5 with h5; subst h5
        exact h6
      have hvn : v = .slice none 0 0 := by
        rw [hz2, List.getElem?_map, show z.cells.toList[j]? = z.cells[j]? by simp, hv] at hp
        simp only [Option.map_some, Option.some.injEq] at hp
        unfold ofConst at hp
        split at hp <;> first | rfl | cases hp
      subst hvn
      exact ⟨fun A n cc e hlt => by injection e with _ e2 e3; omega, fun _ _ _ _ _ _ => by simp [tailBlk], fun _ _ _ _ _ _ _ _ _ _ => by simp [tailBlk]⟩)
    have hp := hn.put o.dst (v := .pointer (some ⟨w.heap.size, 0, none⟩)) (p := .loc s.h.length 0) (.loc _ _ _ (by rw [← h.hrel.len]; simp))
    have e : ({ s with h := s.h ++ [{ t, cells := ti.zero, own := ti.zero.map fun | .sl _ _ => true | _ => false }] } : St).put o.dst (.loc s.h.length 0) = { s.put o.dst (.loc s.h.length 0) with h := s.h ++ [{ t, cells := ti.zero, own := ti.zero.map fun | .sl _ _ => true | _ => false }] } := by
      cases o.dst <;> rfl
    rw [e] at hp
    exact hp

theorem box_sound (hg : GlobOK E c) (h : Sim c w L m s a) {t : TypeId} {x : Operand} (hl : (ev E s x).lies = true) : ∃ w' v, (Instr.box t (a.eval x)).run P w = .ok v w' ∧
    Sim c w' L (m ++ [w.heap.size]) ({ (takeOwn s x).put o.dst (.loc s.h.length 0) with h := s.h ++ [{ t, cells := (ev E s x).cells, own := ownIf (ev E s x) (evOwn s x) }] }) (a.put o.dst v) := by
  have hr := ev_rep hg h x
  have hcr := CRep.of_lies hr hl
  obtain ⟨e1, e2, e3, e4⟩ := takeOwn_v s x
  refine ⟨w.alloc (.cells (a.eval x).cells t), .pointer (some ⟨w.heap.size, 0, none⟩), ?_, ?_⟩
  · simp only [Instr.box, newVar, newRow, Sem.run_bind, run_newObj, Result.andThen_ok, Sem.run_pure]
    rfl
  · have hn := (takeOwn_sim h x).newObj t (a.eval x).cells (ev E s x).cells (ownIf (ev E s x) (evOwn s x)) hcr.len hcr.one hcr.rep (fun j v sz xs ho hv hp => by
      obtain ⟨sz0, xs0, hxs⟩ : ∃ sz0 xs0, ev E s x = .sl sz0 xs0 := by
        cases hx : ev E s x <;> rw [hx] at ho <;> first | exact ⟨_, _, rfl⟩ | (simp [ownIf] at ho; done)
      rw [hxs] at ho hp hr
      have hj : j = 0 := by have := (List.getElem?_eq_some_iff.1 hp).1; simp [PVal.cells] at this; omega
      subst hj
      have hx : ev E s x = .sl sz xs ∧ a.eval x = v := by
        obtain ⟨_, h3, h4⟩ := rep_one hr rfl
        rw [h4] at hp
        rw [h3] at hv
        simp at hp hv
        exact ⟨by rw [hxs, hp.1, hp.2], hv⟩
      obtain ⟨hx1, hx2⟩ := hx
      rcases evOwn_holds (E := E) h hx1 ho with ⟨t0, rfl, hh⟩ | ⟨hv0, _⟩
      · rw [hx2] at hh
        exact ⟨h.own.tail _ v sz hh, fun who u sz' k hh' hk hk' => (takeOwn_holds hh').2 t0 rfl 0 (h.own.apart _ _ u v sz' sz k (takeOwn_holds hh').1 hh hk hk'), fun j' v' sz' xs' k hne ho' _ hp' => by
          rw [hx1] at hp'
          have := (List.getElem?_eq_some_iff.1 hp').1; simp [PVal.cells] at this; omega⟩
      · rw [hx2] at hv0
        subst hv0
        exact ⟨fun A n cc e hlt => by injection e with _ e2 e3; omega, fun _ _ _ _ _ _ => by simp [tailBlk], fun _ _ _ _ _ _ _ _ _ _ => by simp [tailBlk]⟩)
    have hlen : (takeOwn s x).h.length = s.h.length := by rw [e2]
    have hp := hn.put o.dst (v := .pointer (some ⟨w.heap.size, 0, none⟩)) (p := .loc s.h.length 0) (.loc _ _ _ (by rw [← h.hrel.len]; simp))
    rw [e2] at hp
    have e : ({ (takeOwn s x) with h := s.h ++ [{ t, cells := (ev E s x).cells, own := ownIf (ev E s x) (evOwn s x) }] } : St).put o.dst (.loc s.h.length 0) = { (takeOwn s x).put o.dst (.loc s.h.length 0) with h := s.h ++ [{ t, cells := (ev E s x).cells, own := ownIf (ev E s x) (evOwn s x) }] } := by
      cases o.dst <;> rfl
    rw [e] at hp
    exact hp

theorem setCells_get {cs new : List PVal} {off j : Nat} (h : off + new.length ≤ cs.length) : (setCells cs off new)[j]? = if off ≤ j ∧ j < off + new.length then new[j - off]? else cs[j]? := by
  unfold setCells
  have htl : (cs.take off).length = off := by simp; omega
  by_cases h1 : off ≤ j ∧ j < off + new.length
  · rw [if_pos h1, List.append_assoc, List.getElem?_append_right (by omega), htl, List.getElem?_append_left (by omega)]
  · rw [if_neg h1]
    rcases Nat.lt_or_ge j off with h2 | h2
    · rw [List.append_assoc, List.getElem?_append_left (by omega), List.getElem?_take, if_pos h2]
    · rw [List.getElem?_append_right (by simp; omega), List.getElem?_drop]
      congr 1
      simp; omega

theorem setCells_length {cs new : List PVal} {off : Nat} (h : off + new.length ≤ cs.length) : (setCells cs off new).length = cs.length := by
  unfold setCells; simp; omega

theorem setOwn_get {n off k : Nat} {o new : List Bool} {j : Nat} (h : (setOwn n off k o new).getD j false = true) : (if off ≤ j ∧ j < off + k then new.getD (j - off) false else o.getD j false) = true := by
  unfold setOwn at h
  rw [List.getD_eq_getElem?_getD, List.getElem?_map] at h
  rcases Nat.lt_or_ge j n with hj | hj
  · rw [List.getElem?_range hj] at h
    simp only [Option.map_some, Option.getD_some] at h
    by_cases hc : off ≤ j ∧ j < off + k
    · rw [if_pos hc]
      rw [if_pos (by simp [hc])] at h
      exact h
    · rw [if_neg hc]
      rw [if_neg (by simpa using fun h1 h2 => hc ⟨h1, h2⟩)] at h
      exact h
  · rw [List.getElem?_eq_none (by simpa using hj)] at h
    simp at h

theorem store_sound (hg : GlobOK E c) (h : Sim c w L m s a) {t : TypeId} {ad x : Operand} (hr : (storeP (TY P) t (takeOwn s x) (ev E s ad) (ev E s x) (evOwn s x)).run = some s') :
    ∃ w', (Instr.storeAt t (a.eval ad) (a.eval x)).run P w = .ok () w' ∧ Sim c w' L m s' a := by
  obtain ⟨e1, e2, e3, e4⟩ := takeOwn_v s x
  unfold storeP at hr
  split at hr
  · rename_i id off i hloc hi
    have hra := ev_rep hg h ad
    rw [hloc] at hra
    split at hr
    · rename_i ob hob
      split at hr
      · rename_i hcond
        simp only [Bool.and_eq_true, decide_eq_true_eq] at hcond
        obtain ⟨⟨hl, hlen⟩, hfit⟩ := hcond
        have hs' := (run_ret_inv hr).symm
        rw [e2] at hob
        obtain ⟨ti, _, _, hti, _, _, hs, _⟩ := TY_inv hi
        generalize a.eval ad = va at hra ⊢
        cases hra with
        | loc _ _ b hb =>
        obtain ⟨hL0, cur, hp, hcs, h1, hcr⟩ := h.hrel.obj id ob b hob hb
        have hx := ev_rep hg h x
        have hxc := CRep.of_lies hx hl
        have hvs : (a.eval x).cells.size = i.size := by rw [hxc.len, hlen]
        have hvl : (a.eval x).cells.toList.length = i.size := by rw [Array.length_toList, hvs]
        have hst := run_storeCells_at P b off ob.t (a.eval x).cells.toList 0 cur w hp (by omega) (fun v hv => by
          obtain ⟨q, hq⟩ := List.mem_iff_getElem?.1 hv
          exact hxc.one q v (by simpa using hq))
        simp only [Nat.add_zero, hvl] at hst
        let cur' : Array Value := (cur.toList.take off ++ (a.eval x).cells.toList ++ cur.toList.drop (off + i.size)).toArray
        have hget : ∀ j, cur'[j]? = if off ≤ j ∧ j < off + i.size then (a.eval x).cells[j - off]? else cur[j]? := by
          intro j
          have htl : (cur.toList.take off).length = off := by simp; omega
          simp only [cur', List.getElem?_toArray]
          by_cases hc : off ≤ j ∧ j < off + i.size
          · rw [if_pos hc, List.append_assoc, List.getElem?_append_right (by omega), htl, List.getElem?_append_left (by omega)]
            simp
          · rw [if_neg hc]
            rcases Nat.lt_or_ge j off with h2 | h2
            · rw [List.append_assoc, List.getElem?_append_left (by omega), List.getElem?_take, if_pos h2]
              simp
            · have hj3 : off + i.size ≤ j := by omega
              have htl2 : (cur.toList.take off ++ (a.eval x).cells.toList).length = off + i.size := by rw [List.length_append, htl, hvl]
              rw [List.getElem?_append_right (by omega), List.getElem?_drop, htl2, show off + i.size + (j - (off + i.size)) = j by omega]
              simp
        have hcl : off + (ev E s x).cells.length ≤ ob.cells.length := by rw [hlen]; exact hfit
        have hsz : cur'.size = cur.size := by simp only [cur', List.size_toArray, List.length_append, hvl, List.length_take, List.length_drop, Array.length_toList]; omega
        refine ⟨w.setRow b cur', ?_, ?_⟩
        · simp only [Instr.storeAt, Instr.sureAddr, storeVar, Sem.run_bind, Sem.run_pure, Result.andThen_ok, run_sizeOf hti]
          rw [if_neg (by rw [← hs]; simp; rw [hxc.len, hlen])]
          exact hst
        · rw [hs', e1, e2, e3]
          -- what each right was
          let f : Who → Who := fun who => match who, x with | .cell i2 j2, .tmp t0 => if i2 = id ∧ j2 = off ∧ i.size = 1 ∧ ((ownIf (ev E s x) (evOwn s x)).getD 0 false = true) then .slot t0 0 else .cell i2 j2 | w1, _ => w1
          have classify : ∀ (who : Who) (v : Value) (sz : Nat), Holds (w.setRow b cur') m { s with h := s.h.set id { ob with cells := setCells ob.cells off (ev E s x).cells, own := setOwn ob.cells.length off i.size ob.own (ownIf (ev E s x) (evOwn s x)) }, o := (takeOwn s x).o, al := s.al.map noCell } a.tmps who v sz →
              (Holds w m s a.tmps who v sz ∧ (∀ t, x = .tmp t → ∀ j, who ≠ .slot t j) ∧ ¬ (who = .cell id off ∧ i.size = 1 ∧ (ownIf (ev E s x) (evOwn s x)).getD 0 false = true)) ∨
              (who = .cell id off ∧ i.size = 1 ∧ (ownIf (ev E s x) (evOwn s x)).getD 0 false = true ∧ v = a.eval x ∧ ∃ xs, ev E s x = .sl sz xs) := by
            intro who v sz hh
            cases hh with
            | slot t0 j val pv _ _ xs hv hp0 ho hc hq =>
              have h2 : Holds w m (takeOwn s x) a.tmps (.slot t0 j) v sz := .slot t0 j val pv v sz xs hv (by rw [e1]; exact hp0) ho hc hq
              obtain ⟨h3, h4⟩ := takeOwn_holds h2
              exact .inl ⟨h3, h4, fun hh => by cases hh.1⟩
            | cell i2 j ob2 b2 cur2 et _ _ xs hi2 hb2 hp2 hv2 hq2 ho2 =>
              by_cases hie : id = i2
              · subst hie
                rw [hb] at hb2; injection hb2 with hb2; subst hb2
                have hlt : id < s.h.length := (List.getElem?_eq_some_iff.1 hob).1
                simp only [List.getElem?_set_self hlt] at hi2
                injection hi2 with hi2
                subst hi2
                have hc2 : cur2 = cur' := by
                  unfold plainBlk at hp2
                  rw [setRow_heap w b cur cur' ob.t (0, 0) hp] at hp2
                  injection hp2 with hp2; injection hp2 with hp2 _ _; exact hp2.symm
                subst hc2
                simp only at hq2 ho2
                have ho3 := setOwn_get ho2
                rw [setCells_get hcl, hlen] at hq2
                rw [hget] at hv2
                by_cases hc : off ≤ j ∧ j < off + i.size
                · rw [if_pos hc] at hq2 hv2 ho3
                  right
                  obtain ⟨sz0, xs0, hxs⟩ : ∃ sz0 xs0, ev E s x = .sl sz0 xs0 := by
                    cases hx0 : ev E s x <;> rw [hx0] at ho3 <;> first | exact ⟨_, _, rfl⟩ | (simp [ownIf] at ho3; done)
                  rw [hxs] at hq2 hlen hx
                  simp [PVal.cells] at hlen
                  have hj : j = off := by omega
                  subst hj
                  obtain ⟨_, h3, h4⟩ := rep_one hx rfl
                  rw [h4, Nat.sub_self] at hq2
                  rw [h3, Nat.sub_self] at hv2
                  simp at hq2 hv2
                  rw [Nat.sub_self] at ho3
                  exact ⟨rfl, hlen.symm, ho3, hv2.symm, xs0, by rw [hxs, hq2.1]⟩
                · rw [if_neg hc] at hq2 hv2 ho3
                  have hno : ¬ (Who.cell id j = .cell id off ∧ i.size = 1 ∧ (ownIf (ev E s x) (evOwn s x)).getD 0 false = true) := by
                    rintro ⟨h5, h6, _⟩
                    injection h5 with _ h5
                    omega
                  exact .inl ⟨.cell id j ob b cur ob.t v sz xs hob hb hp hv2 hq2 ho3, fun t0 _ j0 e => (by cases e), hno⟩
              · simp only [List.getElem?_set_ne hie] at hi2
                have hkb : b2 ≠ b := by
                  intro e
                  have h3 : i2 < m.length := (List.getElem?_eq_some_iff.1 hb2).1
                  exact hie ((List.getElem?_inj h3 h.hrel.nodup).1 (by rw [hb2, hb, e])).symm
                have hno : ¬ (Who.cell i2 j = .cell id off ∧ i.size = 1 ∧ (ownIf (ev E s x) (evOwn s x)).getD 0 false = true) := by
                  rintro ⟨h5, _⟩
                  injection h5 with h5 _
                  exact hie h5.symm
                exact .inl ⟨.cell i2 j ob2 b2 cur2 et v sz xs hi2 hb2 ((setRow_plain hkb).1 hp2) hv2 hq2 ho2, fun t0 _ j0 e => (by cases e), hno⟩
          have hown0 : ∀ sz xs, ev E s x = .sl sz xs → (ownIf (ev E s x) (evOwn s x)).getD 0 false = true → (evOwn s x).getD 0 false = true := by
            intro sz xs e ho; rw [e] at ho; exact ho
          have fold : ∀ (who : Who), ¬ (who = .cell id off ∧ i.size = 1 ∧ (ownIf (ev E s x) (evOwn s x)).getD 0 false = true) → f who = who := by
            intro who hne
            cases who with
            | slot _ _ => rfl
            | cell i2 j2 =>
              cases x with
              | tmp t0 =>
                simp only [f]
                rw [if_neg]
                rintro ⟨rfl, rfl, h3, h4⟩
                exact hne ⟨rfl, h3, h4⟩
              | _ => rfl
          by_cases htmp : ∃ t0, x = .tmp t0
          · obtain ⟨t0, hx0⟩ := htmp
            have fnew : i.size = 1 → (ownIf (ev E s x) (evOwn s x)).getD 0 false = true → f (.cell id off) = .slot t0 0 := by
              intro h3 h4
              subst hx0
              simp only [f]
              exact if_pos ⟨trivial, trivial, h3, h4⟩
            refine h.setObj (cur' := cur') (ob' := { ob with cells := setCells ob.cells off (ev E s x).cells, own := setOwn ob.cells.length off i.size ob.own (ownIf (ev E s x) (evOwn s x)) }) (f := f) (new := none) hob hb hp rfl (by show cur'.size = (setCells _ _ _).length; rw [setCells_length hcl, hsz, hcs]) (fun j v hv => ?_) (fun j v p hv hp2 => ?_) _ e4 (fun who v sz hh => ?_) (fun p q va vb sa sb hp2 hq2 hpq _ => ?_) (fun x hx => by cases hx)
            · rw [hget] at hv
              split at hv
              · exact hxc.one _ v hv
              · exact h1 _ v hv
            · simp only at hp2
              rw [setCells_get hcl, hlen] at hp2
              rw [hget] at hv
              split at hv
              · rename_i hc; rw [if_pos hc] at hp2; exact hxc.rep _ v p hv hp2
              · rename_i hc; rw [if_neg hc] at hp2; exact hcr _ v p hv hp2
            · refine .inl ⟨?_, fun x hx => by cases hx⟩
              rcases classify who v sz hh with ⟨h2, _, h4⟩ | ⟨rfl, h3, h4, rfl, xs, h6⟩
              · rw [fold who h4]; exact h2
              · rw [fnew h3 h4]
                rcases evOwn_holds (E := E) h h6 (hown0 _ _ h6 h4) with ⟨t1, ht1, hh1⟩ | ⟨_, hno⟩
                · rw [hx0] at ht1; injection ht1 with ht1; subst ht1; exact hh1
                · exact absurd hx0 (hno t0)
            · rcases classify p va sa hp2 with ⟨h2, h3, h4⟩ | ⟨rfl, h3, h4, _⟩ <;> rcases classify q vb sb hq2 with ⟨h5, h6, h7⟩ | ⟨rfl, h6, h7, _⟩
              · rwa [fold p h4, fold q h7] at hpq
              · rw [fold p h4, fnew h6 h7] at hpq
                exact absurd hpq (h3 t0 hx0 0)
              · rw [fold q h7, fnew h3 h4] at hpq
                exact absurd hpq.symm (h6 t0 hx0 0)
              · rfl
          · -- a constant
            have fid : ∀ who, f who = who := by
              intro who
              cases who with
              | slot _ _ => rfl
              | cell i2 j2 => cases x with
                | tmp t0 => exact absurd ⟨t0, rfl⟩ htmp
                | _ => rfl
            have hnil : i.size = 1 → (ownIf (ev E s x) (evOwn s x)).getD 0 false = true → (∃ sz xs, ev E s x = .sl sz xs) ∧ a.eval x = .slice none 0 0 := by
              intro h3 h4
              obtain ⟨sz0, xs0, hxs⟩ : ∃ sz0 xs0, ev E s x = .sl sz0 xs0 := by
                cases hx0 : ev E s x <;> rw [hx0] at h4 <;> first | exact ⟨_, _, rfl⟩ | (simp [ownIf] at h4; done)
              rcases evOwn_holds (E := E) h hxs (hown0 _ _ hxs h4) with ⟨t1, ht1, _⟩ | ⟨h5, _⟩
              · exact absurd ⟨t1, ht1⟩ htmp
              · exact ⟨⟨_, _, hxs⟩, h5⟩
            refine h.setObj (cur' := cur') (ob' := { ob with cells := setCells ob.cells off (ev E s x).cells, own := setOwn ob.cells.length off i.size ob.own (ownIf (ev E s x) (evOwn s x)) }) (f := fun w => w) (new := if i.size = 1 ∧ (ownIf (ev E s x) (evOwn s x)).getD 0 false = true then some (.cell id off, .slice none 0 0, match ev E s x with | .sl sz _ => sz | _ => 0) else none) hob hb hp rfl (by show cur'.size = (setCells _ _ _).length; rw [setCells_length hcl, hsz, hcs]) (fun j v hv => ?_) (fun j v p hv hp2 => ?_) _ e4 (fun who v sz hh => ?_) (fun p q va vb sa sb hp2 hq2 hpq _ => hpq) (fun x0 hx0 => ?_)
            · rw [hget] at hv
              split at hv
              · exact hxc.one _ v hv
              · exact h1 _ v hv
            · simp only at hp2
              rw [setCells_get hcl, hlen] at hp2
              rw [hget] at hv
              split at hv
              · rename_i hc; rw [if_pos hc] at hp2; exact hxc.rep _ v p hv hp2
              · rename_i hc; rw [if_neg hc] at hp2; exact hcr _ v p hv hp2
            · rcases classify who v sz hh with ⟨h2, _, h4⟩ | ⟨rfl, h3, h4, rfl, xs, h6⟩
              · refine .inl ⟨h2, fun x0 hx0 => ?_⟩
                split at hx0
                · rename_i hc
                  injection hx0 with hx0
                  subst hx0
                  exact ⟨fun e => h4 ⟨e, hc.1, hc.2⟩, fun k _ => by simp [tailBlk]⟩
                · cases hx0
              · right
                rw [if_pos ⟨h3, h4⟩, (hnil h3 h4).2, h6]
            · split at hx0
              · injection hx0 with hx0
                subst hx0
                exact fun A n cc e hlt => by injection e with _ e2 e3; omega
              · cases hx0
      · cases hr
    · cases hr
  · cases hr

end Go.Pi
