/- Code. -/
import Derived.Test.YtgikackicafjbaaGreatDoorPiRun3
set_option linter.unusedVariables false
set_option linter.unusedSimpArgs false
namespace Go.Pi

variable {P : Program} {E : Env} {c : Ctx} {w : World} {L : Nat → Nat} {m : List Nat} {s s' : St} {a : Act} {o : Oper}

theorem set_same {α : Type} {l : List α} {i : Nat} {x : α} (h : l[i]? = some x) : l.set i x = l := by
  apply List.ext_getElem?
  intro j
  by_cases e : i = j
  · subst e; rw [List.getElem?_set_self (List.getElem?_eq_some_iff.1 h).1, h]
  · rw [List.getElem?_set_ne e]

theorem get_some {t : Nat} {p : PVal} (h : s.get t = p) (hp : p ≠ .junk) : s.v[t]? = some p := by
  simp only [St.get, List.getD_eq_getElem?_getD] at h
  rcases Nat.lt_or_ge t s.v.length with h1 | h1
  · rw [List.getElem?_eq_getElem h1] at h ⊢; simpa using h
  · rw [List.getElem?_eq_none h1] at h; exact absurd h.symm hp

theorem sub_same {t : Nat} {b : Bool} (h : s.get t = .bool b) : ({ s with v := s.v.set t (.bool b) } : St) = s := by
  have := set_same (get_some h (by simp))
  rw [this]

theorem tmp_bool (h : Sim c w L m s a) {t : Nat} {b : Bool} (hs : s.get t = .bool b) : a.tmps[t]? = some (.bool b) := by
  have h1 := get_some hs (by simp)
  have hlt : t < a.tmps.size := by rw [h.vlen]; exact (List.getElem?_eq_some_iff.1 h1).1
  have := h.rep t _ _ (Array.getElem?_eq_getElem hlt) h1
  rw [Array.getElem?_eq_getElem hlt]
  generalize a.tmps[t] = u at this
  cases this
  rfl

theorem rep_gone (w : World) (L : Nat → Nat) (m : List Nat) : Rep w L m undef (.tup []) := .tup #[] [] rfl (fun i v p hv => by simp at hv)

theorem tmp_gone (h : Sim c w L m s a) {t : Nat} (hs : s.get t = .tup []) : a.tmps[t]? = some undef := by
  have h1 := get_some hs (by simp)
  have hlt : t < a.tmps.size := by rw [h.vlen]; exact (List.getElem?_eq_some_iff.1 h1).1
  have := h.rep t _ _ (Array.getElem?_eq_getElem hlt) h1
  rw [Array.getElem?_eq_getElem hlt]
  generalize a.tmps[t] = u at this
  cases this with
  | tup vs ps hl hh =>
    have : vs = #[] := Array.eq_empty_of_size_eq_zero (by simpa using hl)
    subst this
    rfl

/-- A guard. -/
theorem guardT_sound (h : Sim c w L m s a) {opl : List Oper} {ops : Array Oper} (hops : opl = ops.toList) {k : St → Tree St} (hr : (guardT opl o s k).run = some s') :
    (Region.wanted o (yielded ops a.tmps) = true ∧ (k s).run = some s') ∨ (Region.wanted o (yielded ops a.tmps) = false ∧ s' = s.put o.dst (.tup [])) := by
  unfold guardT at hr
  unfold Region.wanted
  split at hr
  · rename_i hg
    rw [hg]
    exact .inl ⟨rfl, hr⟩
  · rename_i g b hg
    rw [hg]
    split at hr
    · rename_i t ht
      have ht2 : (ops[g]?).bind (·.dst) = some t := by rw [← ht, hops]; simp
      split at hr
      · rename_i b2 hb
        have hy : yielded ops a.tmps g = some b2 := by
          unfold yielded
          rw [ht2]
          simp [tmp_bool h hb]
        simp only [hy]
        have hsame := sub_same hb
        cases b <;> cases b2 <;> simp only [Tree.run, cond_true, cond_false, if_true, if_false, Bool.false_eq_true] at hr <;> rw [hsame] at hr <;>
          first
          | exact .inl ⟨rfl, hr⟩
          | exact .inr ⟨rfl, (Option.some.inj hr).symm⟩
      · rename_i hb
        have hy : yielded ops a.tmps g = none := by
          unfold yielded
          rw [ht2]
          simp [tmp_gone h hb, undef]
        simp only [hy]
        exact .inr ⟨rfl, (run_ret_inv hr).symm⟩
      · cases hr
    · cases hr

theorem regT_sound (hE : EnvOK P E) (hg : GlobOK E c) {ops : Array Oper} {Q : Exit → Act → World → Prop} {opl : List Oper} (hops : opl = ops.toList) : ∀ (rest : List Oper) (i : Nat) (s : St) (a : Act) (w : World) (L : Nat → Nat) (m : List Nat), Sim c w L m s a →
    (regT E opl i rest s).run = some s' → (∀ a' w' L' m', Sim c w' L' m' s' a' → Q .normal a' w') → wpList P ops Q rest a w
  | [], i, s, a, w, L, m, h, hr, hQ => by
    cases run_ret_inv hr
    exact wpList_nil (hQ _ _ _ _ h)
  | o :: rest, i, s, a, w, L, m, h, hr, hQ => by
    obtain ⟨s1, h1, h2⟩ := tree_bind_some hr
    rw [forceSt_eq] at h2
    refine wpList_step fun K hK => ?_
    rcases guardT_sound h hops h1 with ⟨hw, h3⟩ | ⟨hw, rfl⟩
    · rw [if_pos hw]
      exact opT_sound hE hg h opl i h3 K Q fun a' w' L' m' hs => hK _ _ (regT_sound hE hg hops rest (i + 1) s1 a' w' L' m' hs h2 hQ)
    · rw [if_neg (by simp [hw])]
      exact hK _ _ (regT_sound hE hg hops rest (i + 1) _ _ w L m (h.put o.dst (rep_gone _ _ _)) h2 hQ)

/-- What is no variable is forgotten. -/
theorem forget_sim (h : Sim c w L m s a) (keep : List Nat) : Sim c w L m (forget keep s) a := by
  have hv : ∀ (t : Nat) (p : PVal), (forget keep s).v[t]? = some p → s.v[t]? = some p ∨ p = .junk := by
    intro t p hp
    simp only [forget, List.getElem?_map, List.getElem?_zipIdx] at hp
    cases hx : s.v[t]? with
    | none => rw [hx] at hp; simp at hp
    | some x =>
      rw [hx] at hp
      simp only [Option.map_some, Option.some.injEq] at hp
      split at hp
      · exact .inl (by rw [hp])
      · exact .inr hp.symm
  have inv : ∀ {who : Who} {u : Value} {sz : Nat}, Holds w m (forget keep s) a.tmps who u sz → Holds w m s a.tmps who u sz := by
    intro who u sz hh
    cases hh with
    | slot t j val pv _ _ xs hv' hp ho hc hq =>
      rcases hv t pv hp with h1 | h1
      · refine .slot t j val pv u sz xs hv' h1 ?_ hc hq
        simp only [forget, List.getD_eq_getElem?_getD, List.getElem?_map, List.getElem?_zipIdx] at ho
        simp only [List.getD_eq_getElem?_getD]
        cases hx : s.o[t]? with
        | none => rw [hx] at ho; simp at ho
        | some x =>
          rw [hx] at ho
          simp only [Option.map_some, Option.getD_some] at ho ⊢
          split at ho
          · exact ho
          · simp at ho
      · subst h1; cases j <;> simp [compP] at hq
    | cell i j ob b cur e _ _ xs hi hb hp hv hq ho => exact .cell i j ob b cur e u sz xs hi hb hp hv hq ho
  exact { h with
    vlen := by simpa [forget] using h.vlen
    olen := by simpa [forget] using h.olen
    al := fun t hm ht hh => by
      simp only [forget, List.getD_eq_getElem?_getD, List.getElem?_map] at hh
      cases hx : s.al[t]? <;> rw [hx] at hh <;> cases hh
    rep := fun t v p ha hp => by
      rcases hv t p hp with h1 | h1
      · exact h.rep t v p ha h1
      · subst h1; exact .junk _
    own := h.own.step id none (fun w1 u sz hh => .inl ⟨inv hh, fun x hx => by cases hx⟩) (fun a b va vb sa sb _ _ hab _ => hab) (fun v sz hv _ => hv) (fun x hx => by cases hx) }

def Ex.exit : Ex → Exit
  | .nrm => .normal
  | .ext id => .exit id
  | .gto l => .goto l
  | .ret => .ret

def Sound (P : Program) (c : Ctx) (f : Code → St → Option (Ex × St)) (b : Code) : Prop :=
  ∀ (s s' : St) (e : Ex) (a : Act) (w : World) (L : Nat → Nat) (m : List Nat) (Q : Exit → Act → World → Prop), f b s = some (e, s') → Sim c w L m s a →
    (∀ a' w' L' m', Sim c w' L' m' s' a' → Q e.exit a' w') → b.wp P Q a w

theorem iter_sound {keep : List Nat} {f : Code → St → Option (Ex × St)} {b : Code} (hf : Sound P c f b) : ∀ (n : Nat) (s s' : St) (e : Ex) (a : Act) (w : World) (L : Nat → Nat) (m : List Nat) (Q : Exit → Act → World → Prop),
    iter (f b) (forget keep) n s = some (e, s') → Sim c w L m s a → (∀ a' w' L' m', Sim c w' L' m' s' a' → Q e.exit a' w') → Code.rounds P b Q n a w
  | 0, s, s', e, a, w, L, m, Q, h, hs, hQ => by cases h
  | n + 1, s, s', e, a, w, L, m, Q, h, hs, hQ => by
    rw [rounds_succ]
    unfold iter at h
    split at h
    · rename_i s1 h1
      exact hf _ s1 .nrm a w L m _ h1 (forget_sim hs keep) fun a' w' L' m' hs' => iter_sound hf n s1 s' e a' w' L' m' Q h hs' hQ
    · rename_i h1
      refine hf _ s' e a w L m _ h (forget_sim hs keep) fun a' w' L' m' hs' => ?_
      cases e with
      | nrm => exact absurd h (h1 s')
      | ext id => exact hQ a' w' L' m' hs'
      | gto l => exact hQ a' w' L' m' hs'
      | ret => exact hQ a' w' L' m' hs'

theorem jumps_sound {keep : List Nat} {f : Code → St → Option (Ex × St)} {c0 : Code} {G : Code → Prop} (hf : ∀ b, G b → Sound P c f b) (hG : ∀ l rest, findLabel c0 l = some rest → G rest) : ∀ (n : Nat) (b : Code) (hb : G b) (s s' : St) (e : Ex) (a : Act) (w : World) (L : Nat → Nat) (m : List Nat) (Q : Exit → Act → World → Prop),
    jumps f c0 (forget keep) n b s = some (e, s') → Sim c w L m s a → (∀ a' w' L' m', Sim c w' L' m' s' a' → Q e.exit a' w') →
    ∀ (fr : Frame) (k : List Item) (cs : List Frame), ∃ e' a' w', Q e' a' w' ∧ Arrives P (lone (fr.at a (.code b :: .inScope c0 :: k)) cs w) fr k cs e' a' w'
  | 0, b, hb, s, s', e, a, w, L, m, Q, h, hs, hQ, fr, k, cs => by cases h
  | n + 1, b, hb, s, s', e, a, w, L, m, Q, h, hs, hQ, fr, k, cs => by
    unfold jumps at h
    split at h
    · rename_i l s1 h1
      obtain ⟨e1, a1, w1, hq1, harr⟩ := hf b hb s s1 (.gto l) a w L m (fun e' a' w' => e' = .goto l ∧ ∃ L' m', Sim c w' L' m' s1 a') h1 hs (fun a' w' L' m' hs' => ⟨rfl, L', m', hs'⟩) fr (.inScope c0 :: k) cs
      obtain ⟨rfl, L', m', hs'⟩ := hq1
      split at h
      · rename_i rest hl
        obtain ⟨e2, a2, w2, hq2, harr2⟩ := jumps_sound hf hG n rest (hG l rest hl) (forget keep s1) s' e a1 w1 L' m' Q h (forget_sim hs' keep) hQ fr k cs
        exact ⟨e2, a2, w2, hq2, .of_steps (harr _ (by simp [gotoIn, hl])) harr2⟩
      · rename_i hl
        injection h with h
        injection h with h h'
        subst h; subst h'
        exact ⟨.goto l, a1, w1, hQ a1 w1 L' m' hs', fun k' hk => harr k' (by simp [gotoIn, hl, hk])⟩
    · rename_i h1
      obtain ⟨e1, a1, w1, hq1, harr⟩ := hf b hb s s' e a w L m (fun e' a' w' => e' = e.exit ∧ Q e' a' w') h hs (fun a' w' L' m' hs' => ⟨rfl, hQ a' w' L' m' hs'⟩) fr (.inScope c0 :: k) cs
      obtain ⟨rfl, hq1⟩ := hq1
      cases e with
      | nrm => exact ⟨.normal, a1, w1, hq1, Steps.trans harr (.one step_inScope)⟩
      | ext id => exact ⟨.exit id, a1, w1, hq1, fun k' hk => harr k' (by simp [exitTo, hk])⟩
      | gto l => exact absurd h (h1 l s')
      | ret => exact ⟨.ret, a1, w1, hq1, harr⟩

theorem scope_sound {keep : List Nat} {f : Code → St → Option (Ex × St)} {b : Code} {G : Code → Prop} (hf : ∀ b, G b → Sound P c f b) (hG : ∀ l rest, findLabel b l = some rest → G rest) (hb : G b) {n : Nat} {e : Ex} {Q : Exit → Act → World → Prop} (h : jumps f b (forget keep) n b s = some (e, s')) (hs : Sim c w L m s a)
    (hQ : ∀ a' w' L' m', Sim c w' L' m' s' a' → Q e.exit a' w') : (Code.scope b).wp P Q a w := by
  intro fr k cs
  obtain ⟨e', a', w', hq, harr⟩ := jumps_sound hf hG n b hb s s' e a w L m Q h hs hQ fr k cs
  exact ⟨e', a', w', hq, .of_steps (.one step_scope) harr⟩

/-- A region that draws its order: shown in PiDraw. -/
def DrawOK (P : Program) (E : Env) (c : Ctx) : Prop :=
  ∀ (id : Nat) (ops : Array Oper) (s s' : St) (a : Act) (w : World) (L : Nat → Nat) (m : List Nat) (Q : Exit → Act → World → Prop), (drawT E ops s).run = some s' → Sim c w L m s a →
    (∀ a' w' L' m', Sim c w' L' m' s' a' → Q .normal a' w') → (Code.region id ops true).wp P Q a w

/-- What a loop's answer, a scope's answer must be. -/
def Holds1 (P : Program) (E : Env) (c : Ctx) (f : Code → St → Tree (Ex × St)) (wrap : Code → Code) (b : Code) : Prop :=
  ∀ (s s' : St) (e : Ex) (a : Act) (w : World) (L : Nat → Nat) (m : List Nat) (Q : Exit → Act → World → Prop), (f b s).run = some (e, s') → Sim c w L m s a →
    (∀ a' w' L' m', Sim c w' L' m' s' a' → Q e.exit a' w') → (wrap b).wp P Q a w

structure Turns (P : Program) (E : Env) (c : Ctx) (b : Code) : Prop where
  lp : ∀ x ∈ loopsOf b, Holds1 P E c E.lp .loop x
  sc : ∀ x ∈ scopesOf b, Holds1 P E c E.sc .scope x

theorem exec_sound (hE : EnvOK P E) (hg : GlobOK E c) (hD : DrawOK P E c) : ∀ (d : Nat) (b : Code), Turns P E c b → Sound P c (fun b s => (exec E d b s).run) b
  | 0, b, ht => fun s s' e a w L m Q h hs hQ => by cases h
  | d + 1, b, ht => fun s s' e a w L m Q h hs hQ => by
    have ih := exec_sound hE hg hD d
    cases b <;> simp only [exec] at h
    case skip => cases run_ret_inv h; exact wp_skip (hQ _ _ _ _ hs)
    case label l => cases run_ret_inv h; exact wp_label (hQ _ _ _ _ hs)
    case exit id => cases run_ret_inv h; exact wp_exit (hQ _ _ _ _ hs)
    case goto l => cases run_ret_inv h; exact wp_goto (hQ _ _ _ _ hs)
    case ret => cases run_ret_inv h; exact wp_ret (hQ _ _ _ _ hs)
    case region id ops draw =>
      obtain ⟨s1, h1, h2⟩ := tree_bind_some h
      cases run_ret_inv h2
      cases draw with
      | false =>
        rw [if_neg (by simp)] at h1
        exact wp_region_list (regT_sound hE hg rfl _ 0 s a w L m hs h1 hQ)
      | true =>
        rw [if_pos rfl] at h1
        exact hD id ops s s' a w L m Q h1 hs hQ
    case seq x y =>
      obtain ⟨⟨e1, s1⟩, h1, h2⟩ := tree_bind_some h
      have tx : Turns P E c x := ⟨fun b hb => ht.lp b (by simp [loopsOf, hb]), fun b hb => ht.sc b (by simp [scopesOf, hb])⟩
      have ty : Turns P E c y := ⟨fun b hb => ht.lp b (by simp [loopsOf, hb]), fun b hb => ht.sc b (by simp [scopesOf, hb])⟩
      refine wp_seq (ih x tx s s1 e1 a w L m _ h1 hs fun a' w' L' m' hs' => ?_)
      cases e1 with
      | nrm => exact ih y ty s1 s' e a' w' L' m' Q h2 hs' hQ
      | ext id => cases run_ret_inv h2; exact hQ a' w' L' m' hs'
      | gto l => cases run_ret_inv h2; exact hQ a' w' L' m' hs'
      | ret => cases run_ret_inv h2; exact hQ a' w' L' m' hs'
    case cond x y z =>
      have ty : Turns P E c y := ⟨fun b hb => ht.lp b (by simp [loopsOf, hb]), fun b hb => ht.sc b (by simp [scopesOf, hb])⟩
      have tz : Turns P E c z := ⟨fun b hb => ht.lp b (by simp [loopsOf, hb]), fun b hb => ht.sc b (by simp [scopesOf, hb])⟩
      have hr := ev_rep hg hs x
      split at h
      · rename_i t b hx
        rw [hx] at hr
        generalize hu : a.eval (.tmp t) = u at hr
        cases hr
        have hsame : ({ s with v := s.v.set t (.bool b) } : St) = s := sub_same hx
        cases b with
        | true =>
          simp only [Tree.run, cond_true] at h
          rw [hsame] at h
          exact wp_cond_true hu (ih y ty s s' e a w L m Q h hs hQ)
        | false =>
          simp only [Tree.run, cond_false] at h
          rw [hsame] at h
          exact wp_cond_false hu (ih z tz s s' e a w L m Q h hs hQ)
      · rename_i v b hx
        rw [hx] at hr
        generalize hu : a.eval (.const v) = u at hr
        cases hr
        cases b with
        | true => exact wp_cond_true hu (ih y ty s s' e a w L m Q h hs hQ)
        | false => exact wp_cond_false hu (ih z tz s s' e a w L m Q h hs hQ)
      · cases h
    case block id b =>
      obtain ⟨⟨e1, s1⟩, h1, h2⟩ := tree_bind_some h
      refine wp_block (ih b ⟨ht.lp, ht.sc⟩ s s1 e1 a w L m _ h1 hs fun a' w' L' m' hs' => ?_)
      cases e1 with
      | nrm => cases run_ret_inv h2; exact hQ a' w' L' m' hs'
      | ext i =>
        simp only at h2
        simp only [Ex.exit, Exit.inBlock]
        split at h2
        · rename_i hi
          rw [if_pos hi]
          cases run_ret_inv h2; exact hQ a' w' L' m' hs'
        · rename_i hi
          rw [if_neg hi]
          cases run_ret_inv h2; exact hQ a' w' L' m' hs'
      | gto l => cases run_ret_inv h2; exact hQ a' w' L' m' hs'
      | ret => cases run_ret_inv h2; exact hQ a' w' L' m' hs'
    case loop b =>
      exact ht.lp b (by simp [loopsOf]) s s' e a w L m Q h hs hQ
    case scope b =>
      exact ht.sc b (by simp [scopesOf]) s s' e a w L m Q h hs hQ
    all_goals cases h

/-- A loop's answer, out of its rounds. -/
theorem loop_turns (hE : EnvOK P E) (hg : GlobOK E c) (hD : DrawOK P E c) {b : Code} (ht : Turns P E c b) (keep : List Nat)
    (h : ∀ s e s', (E.lp b s).run = some (e, s') → ∃ n d s'', iter (fun s => (exec E d b s).run) (forget keep) n s = some (e, s'') ∧ forget keep s'' = s') : Holds1 P E c E.lp .loop b := by
  intro s s' e a w L m Q hr hs hQ
  obtain ⟨n, d, s'', h1, rfl⟩ := h s e s' hr
  exact wp_loop_rounds n (iter_sound (f := fun b s => (exec E d b s).run) (exec_sound hE hg hD d b ht) n s s'' e a w L m Q h1 hs fun a' w' L' m' hs' => hQ a' w' L' m' (forget_sim hs' keep))

theorem findLabel_loops : ∀ {c rest : Code} {l : Nat}, findLabel c l = some rest → (∀ x ∈ loopsOf rest, x ∈ loopsOf c) ∧ (∀ x ∈ scopesOf rest, x ∈ scopesOf c)
  | .seq a b, rest, l, h => by
    simp only [findLabel] at h
    split at h
    · rename_i r hr
      injection h with h
      subst h
      have := findLabel_loops hr
      refine ⟨fun x hx => ?_, fun x hx => ?_⟩
      · simp only [loopsOf, List.mem_append] at hx ⊢
        exact hx.imp (this.1 x) id
      · simp only [scopesOf, List.mem_append] at hx ⊢
        exact hx.imp (this.2 x) id
    · have := findLabel_loops h
      exact ⟨fun x hx => by simp [loopsOf, this.1 x hx], fun x hx => by simp [scopesOf, this.2 x hx]⟩
  | .label l', rest, l, h => by
    simp only [findLabel] at h
    split at h
    · injection h with h; subst h; exact ⟨fun x hx => by simp [loopsOf] at hx, fun x hx => by simp [scopesOf] at hx⟩
    · cases h
  | .skip, _, _, h => by simp [findLabel] at h
  | .region _ _ _, _, _, h => by simp [findLabel] at h
  | .cond _ _ _, _, _, h => by simp [findLabel] at h
  | .block _ _, _, _, h => by simp [findLabel] at h
  | .loop _, _, _, h => by simp [findLabel] at h
  | .exit _, _, _, h => by simp [findLabel] at h
  | .scope _, _, _, h => by simp [findLabel] at h
  | .goto _, _, _, h => by simp [findLabel] at h
  | .ret, _, _, h => by simp [findLabel] at h
  | .rangeFunc .., _, _, h => by simp [findLabel] at h

/-- A scope's answer, out of its jumps. -/
theorem scope_turns (hE : EnvOK P E) (hg : GlobOK E c) (hD : DrawOK P E c) {b : Code} (ht : Turns P E c b) (keep : List Nat)
    (h : ∀ s e s', (E.sc b s).run = some (e, s') → ∃ n d s'', jumps (fun c s => (exec E d c s).run) b (forget keep) n b s = some (e, s'') ∧ forget keep s'' = s') : Holds1 P E c E.sc .scope b := by
  intro s s' e a w L m Q hr hs hQ
  obtain ⟨n, d, s'', h1, rfl⟩ := h s e s' hr
  refine scope_sound (f := fun b s => (exec E d b s).run) (G := fun x => Turns P E c x) (fun x hx => exec_sound hE hg hD d x hx) (fun l rest hl => ?_) ht h1 hs fun a' w' L' m' hs' => hQ a' w' L' m' (forget_sim hs' keep)
  have := findLabel_loops hl
  exact ⟨fun x hx => ht.lp x (this.1 x hx), fun x hx => ht.sc x (this.2 x hx)⟩

end Go.Pi
