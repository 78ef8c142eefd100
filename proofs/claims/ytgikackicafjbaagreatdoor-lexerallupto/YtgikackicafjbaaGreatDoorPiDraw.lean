/- Regions that draw their order. -/
import Derived.Test.YtgikackicafjbaaGreatDoorPiFun
set_option linter.unusedVariables false
set_option linter.unusedSimpArgs false
namespace Go.Pi

variable {P : Program} {E : Env} {c : Ctx} {w : World} {L : Nat → Nat} {m : List Nat} {s s' : St} {a : Act} {o : Oper}

/-- The worlds in which nothing that was there has changed. -/
def Later (w : World) (L : Nat → Nat) (w' : World) : Prop := ∃ L', Quiet w L w' L'

theorem scal_rep {w' : World} {L' : Nat → Nat} {v v' : Value} {p : PVal} (hs : scal p = true) (h : Rep w L m v p) (h' : Rep w' L' m v' p) : v = v' := by
  cases h <;> first | (simp [scal] at hs; done) | skip
  case int => cases h'; rfl
  case bool => cases h'; rfl
  case str b =>
    generalize hp : PVal.str b.data.toList = p at h'
    cases h' <;> first | (cases hp; done) | skip
    rename_i b'
    injection hp with hp
    congr 1
    apply ByteArray.ext
    exact Array.ext' hp
  case nilp => cases h'; rfl
  case nili => cases h'; rfl
  case nilf => cases h'; rfl
  case loc id off b hb =>
    cases h' with
    | loc _ _ b' hb' =>
      rw [hb] at hb'
      injection hb' with hb'
      rw [hb']

theorem rigid_rep {w' : World} {L' : Nat → Nat} {v v' : Value} {p : PVal} (hs : rigid p = true) (h : Rep w L m v p) (h' : Rep w' L' m v' p) : v = v' := by
  by_cases ha : (∃ cs, p = .agg cs) ∨ ∃ cs, p = .tup cs
  · have ext : ∀ (vs us : Array Value) (ps : List PVal), ps.all scal = true → vs.size = ps.length → us.size = ps.length → (∀ (i : Nat) (v : Value) (p : PVal), vs[i]? = some v → ps[i]? = some p → Rep w L m v p) →
        (∀ (i : Nat) (v : Value) (p : PVal), us[i]? = some v → ps[i]? = some p → Rep w' L' m v p) → vs = us := by
      intro vs us ps hall h1 h2 h3 h4
      apply Array.ext (by omega)
      intro i hi hi'
      have hp : ps[i]? = some (ps[i]'(by omega)) := List.getElem?_eq_getElem (by omega)
      exact scal_rep (List.all_eq_true.1 hall _ (List.mem_of_getElem? hp)) (h3 i _ _ (Array.getElem?_eq_getElem hi) hp) (h4 i _ _ (Array.getElem?_eq_getElem hi') hp)
    rcases ha with ⟨cs, rfl⟩ | ⟨cs, rfl⟩
    · cases h with
      | agg vs _ h1 h3 => cases h' with
        | agg us _ h2 h4 => rw [ext vs us cs hs h1 h2 h3 h4]
    · cases h with
      | tup vs _ h1 h3 => cases h' with
        | tup us _ h2 h4 => rw [ext vs us cs hs h1 h2 h3 h4]
  · have : scal p = true := by
      cases p <;> first | exact hs | exact absurd (.inl ⟨_, rfl⟩) ha | exact absurd (.inr ⟨_, rfl⟩) ha
    exact scal_rep this h h'

theorem scal_any {w' : World} {L' : Nat → Nat} {v : Value} {p : PVal} (hs : scal p = true) (h : Rep w L m v p) : Rep w' L' m v p := by
  cases h <;> first | (simp [scal] at hs; done) | skip
  case int => exact .int _ _
  case bool => exact .bool _
  case str => exact .str _
  case nilp => exact .nilp
  case nili => exact .nili
  case nilf => exact .nilf
  case loc id off b hb => exact .loc _ _ _ hb

theorem rigid_any {w' : World} {L' : Nat → Nat} {v : Value} {p : PVal} (hs : rigid p = true) (h : Rep w L m v p) : Rep w' L' m v p := by
  by_cases ha : (∃ cs, p = .agg cs) ∨ ∃ cs, p = .tup cs
  · rcases ha with ⟨cs, rfl⟩ | ⟨cs, rfl⟩
    · cases h with
      | agg vs _ h1 h3 => exact .agg vs cs h1 fun i v p hv hp => scal_any (List.all_eq_true.1 hs _ (List.mem_of_getElem? hp)) (h3 i v p hv hp)
    · cases h with
      | tup vs _ h1 h3 => exact .tup vs cs h1 fun i v p hv hp => scal_any (List.all_eq_true.1 hs _ (List.mem_of_getElem? hp)) (h3 i v p hv hp)
  · have : scal p = true := by
      cases p <;> first | exact hs | exact absurd (.inl ⟨_, rfl⟩) ha | exact absurd (.inr ⟨_, rfl⟩) ha
    exact scal_any this h

theorem quietAt_value {C : World → Prop} {v : Value} {w' : World} (h : (execOp a.eval o).run P w' = .ok (.value v) w') : o.quietAt P a C w' v := by
  unfold Oper.quietAt
  rw [h]
  exact ⟨rfl, rfl⟩

theorem quiet_rigid {p : PVal} (h : Sim c w L m s a) (hp : rigid p = true) (hv : ∀ (w' : World) (L' : Nat → Nat), Quiet w L w' L' → ∃ v, (execOp a.eval o).run P w' = .ok (.value v) w' ∧ Rep w' L' m v p) :
    ∃ v, (∀ w', Later w L w' → o.quietAt P a (Later w L) w' v) ∧ Rep w L m v p := by
  obtain ⟨v, hr, hrep⟩ := hv w L (Quiet.refl w h.new)
  refine ⟨v, fun w' ⟨L', q⟩ => ?_, hrep⟩
  obtain ⟨v', hr', hrep'⟩ := hv w' L' q
  rw [rigid_rep hp hrep hrep']
  exact quietAt_value hr'

theorem opD_sound (hE : EnvOK P E) (hg : GlobOK E c) (h : Sim c w L m s a) {p : PVal} (hr : (opD E o s).run = some p) : ∃ v, (∀ w', Later w L w' → o.quietAt P a (Later w L) w' v) ∧ Rep w L m v p := by
  have hT := hE.T
  have viaV : ∀ {q : PVal}, ((valT E o s).bind fun x => if rigid x then Tree.ret x else .fail).run = some q → ∃ v, (∀ w', Later w L w' → o.quietAt P a (Later w L) w' v) ∧ Rep w L m v q := by
    intro q hq
    obtain ⟨x, hx, hq⟩ := tree_bind_some hq
    split at hq
    · rename_i hrg
      cases run_ret_inv hq
      exact quiet_rigid h hrg fun w' L' hQ => valT_sound hT hE.eqt hg (h.quiet hQ) hx
    · cases hq
  cases ho : o.op <;> simp only [opD, ho] at hr
  case move x =>
    cases run_ret_inv hr
    exact ⟨a.eval x, fun w' _ => quietAt_value (by simp only [execOp, ho]; rfl), ev_rep hg h x⟩
  case assign x =>
    cases run_ret_inv hr
    exact ⟨a.eval x, fun w' _ => quietAt_value (by simp only [execOp, ho]; rfl), evA_rep hg h o.type x⟩
  case load t x =>
    rw [hT] at hr
    have hrx := ev_rep hg h x
    have key : ∃ u, (∀ w' : World, (∀ b, b < w.heap.size → w'.heap[b]? = w.heap[b]?) → (Instr.loadAt t (a.eval x)).run P w' = .ok u w') ∧ Rep w L m u p := by
      cases hx : ev E s x with
      | ref y =>
        rw [hx] at hr hrx
        exact loadRef_all hrx hr
      | loc id off =>
        rw [hx] at hr hrx
        simp only [loadP] at hr
        exact loadH_all hrx h.hrel hr
      | _ => rw [hx] at hr; simp [loadP, Tree.run] at hr
    obtain ⟨u, hu, hrep⟩ := key
    refine ⟨u, fun w' ⟨L', q⟩ => quietAt_value ?_, hrep⟩
    simp only [execOp, ho]
    exact run_v (hu w' fun b hb => (q.blk b hb).1)
  case fieldAddr t x f =>
    simp only [valT, ho] at hr
    split at hr
    · rename_i fs sz b z ht
      rw [hT] at ht
      split at hr
      · rename_i fo ft hf
        split at hr
        · rename_i fi id off hft hx
          rw [hT] at hft
          have hb := ev_rep hg h x
          rw [hx] at hb
          split at hr
          · cases hr
          · rename_i hsz
            cases run_ret_inv hr
            generalize hu : a.eval x = u at hb
            cases hb with
            | loc _ _ bb hbb =>
              refine ⟨_, fun w' _ => quietAt_value ?_, .loc _ _ bb hbb⟩
              simp only [execOp, ho, hu]
              exact run_v (fieldAt_run ht hf hft hsz bb off)
        · rename_i fi cs hft hx
          rw [hT] at hft
          have hb := ev_rep hg h x
          rw [hx] at hb
          split at hr
          · cases hr
          · rename_i hsz
            rw [hT] at hr
            obtain ⟨i', q, hi', hq, rfl, h1⟩ := refPart_inv hr
            obtain ⟨bb, oo, cv, hv, _⟩ := rep_ref_inv hb
            rw [hv] at hb
            refine ⟨_, fun w' _ => quietAt_value ?_, ref_part hb hi' h1 hq⟩
            simp only [execOp, ho, hv]
            exact run_v (fieldAt_run ht hf hft hsz bb oo)
        · cases hr
      · cases hr
    · cases hr
  case indexAddr t x ix =>
    simp only [valT, ho] at hr
    split at hr
    · rename_i e s1 b1 z1 sz xs k n ht hx hn
      rw [hT] at ht
      have hb := ev_rep hg h x
      have hbn := ev_rep hg h ix
      rw [hx] at hb
      rw [hn] at hbn
      split at hr
      · rename_i ti he
        rw [hT] at he
        split at hr
        · rename_i hsz
          obtain ⟨hc, hr⟩ := tree_need hr
          simp only [Bool.and_eq_true, decide_eq_true_eq] at hc
          obtain ⟨hft, hr⟩ := tree_need hr
          have hvw : viewT ti (xs.getD n.toNat .junk) = xs.getD n.toNat .junk := viewT_eq (List.all_eq_true.1 (show xs.all (fitT ti) = true by rw [hT] at hft; unfold fitAll at hft; rw [he] at hft; exact hft) _ (by
            rw [List.getD_eq_getElem?_getD, List.getElem?_eq_getElem (show n.toNat < xs.length by omega)]
            simp))
          rw [hvw] at hr
          cases run_ret_inv hr
          generalize hun : a.eval ix = un at hbn
          cases hbn
          obtain ⟨u, hu, hrep⟩ := indexSl_all (k := k) ht he hsz hb hc.1 hc.2
          refine ⟨u, fun w' _ => quietAt_value ?_, hrep⟩
          simp only [execOp, ho, hun]
          exact run_v (hu w')
        · cases hr
      · cases hr
    · rename_i len e s1 b1 z1 id off k n ht hx hn
      rw [hT] at ht
      have hb := ev_rep hg h x
      have hbn := ev_rep hg h ix
      rw [hx] at hb
      rw [hn] at hbn
      split at hr
      · rename_i ti he
        rw [hT] at he
        obtain ⟨hc, hr⟩ := tree_need hr
        simp only [Bool.and_eq_true, decide_eq_true_eq] at hc
        cases run_ret_inv hr
        generalize hun : a.eval ix = un at hbn
        generalize hux : a.eval x = ux at hb
        cases hbn
        cases hb with
        | loc _ _ bb hbb =>
          refine ⟨_, fun w' _ => quietAt_value ?_, .loc _ _ bb hbb⟩
          simp only [execOp, ho, hun, hux]
          exact run_v (indexArr_run ht he hc.1 hc.2 bb off)
      · cases hr
    · rename_i len e s1 b1 z1 cs k n ht hx hn
      rw [hT] at ht
      have hb := ev_rep hg h x
      have hbn := ev_rep hg h ix
      rw [hx] at hb
      rw [hn] at hbn
      split at hr
      · rename_i ti he
        rw [hT] at he
        obtain ⟨hc, hr⟩ := tree_need hr
        simp only [Bool.and_eq_true, decide_eq_true_eq] at hc
        rw [hT] at hr
        obtain ⟨i', q, hi', hq, rfl, h1⟩ := refPart_inv hr
        obtain ⟨bb, oo, cv, hv, _⟩ := rep_ref_inv hb
        rw [hv] at hb
        generalize hun : a.eval ix = un at hbn
        cases hbn
        refine ⟨_, fun w' _ => quietAt_value ?_, ref_part hb hi' h1 hq⟩
        simp only [execOp, ho, hun, hv]
        exact run_v (indexArr_run ht he hc.1 hc.2 bb oo)
      · cases hr
    · cases hr
  case slice t x lo hi mx =>
    obtain ⟨⟨q, e⟩, hq, hr⟩ := tree_bind_some hr
    simp only at hr
    split at hr
    · rename_i hrg
      cases run_ret_inv hr
      rw [hT] at hq
      refine quiet_rigid h hrg fun w' L' hQ => ?_
      have h' := h.quiet hQ
      obtain ⟨v, hrun, hrep, _⟩ := slice_sound (ev_rep hg h' x) (orep hg h' lo) (orep hg h' hi) (orep hg h' mx) hq
      exact ⟨v, by simp only [execOp, ho]; exact run_v hrun, hrep⟩
    · cases hr
  case call cl =>
    split at hr
    · rename_i f hcal
      split at hr
      · rename_i g hf
        split at hr
        · cases hr
        · rename_i hF
          split at hr
          · rename_i hall
            obtain ⟨r, hcall, hr⟩ := tree_bind_some hr
            split at hr
            · rename_i hrg
              simp only [Bool.and_eq_true, List.isEmpty_iff] at hrg
              cases run_ret_inv hr
              obtain ⟨⟨fn, hfn, hname, hbody⟩, hcalls⟩ := hE.call g _ _ r hF hcall
              -- the value, once
              have val : ∀ (w' : World) (L' : Nat → Nat), Quiet w L w' L' → ∃ vs : List Value, (execOp a.eval o).run P w' = .ok (.enter g vs.toArray) w' ∧
                  Calls P g vs.toArray w' fun e w'' => ∃ v L'', e = .returned v ∧ Quiet w L w'' L'' ∧ Rep w'' L'' m v r.v := by
                intro w' L' hQ
                have h' := h.quiet hQ
                obtain ⟨vs, hlen, hvs, hrun⟩ := call_value (captured := []) (first := []) hE hg h' ho hcal hf
                simp only [List.nil_append, List.append_nil] at hlen hvs
                refine ⟨vs, by rw [hrun, run_enter hfn hname hbody], ?_⟩
                refine (hcalls w' L' [] (fun _ => False) vs.toArray (h'.enter0 hlen hvs (fun p hp => List.all_eq_true.1 hall p hp)) (fun g x hgx => ((hg g x hgx).ext h'.ext).anew (hE.globNL g x hgx))).mono fun e w'' he => ?_
                obtain ⟨v, L'', m'', rfl, hs⟩ := he
                obtain ⟨rfl, hq⟩ := quiet_back hs hrg.2
                exact ⟨v, L'', rfl, hQ.trans hq, (hs.rep 0 v r.v rfl rfl).ext ⟨fun _ _ _ _ h => h, fun _ => Nat.le_refl _, fun i b hb => by simp at hb⟩⟩
              obtain ⟨vs0, _, hc0⟩ := val w L (Quiet.refl w h.new)
              obtain ⟨e0, w0, fr0, ⟨v0, L0, rfl, hq0, hr0⟩, _⟩ := hc0 []
              refine ⟨v0, fun w' ⟨L', hQ⟩ => ?_, ?_⟩
              · obtain ⟨vs, hrun, hc⟩ := val w' L' hQ
                unfold Oper.quietAt
                rw [hrun]
                refine ⟨rfl, hc.mono fun e w'' he => ?_⟩
                obtain ⟨v, L'', rfl, hq, hrr⟩ := he
                exact ⟨by rw [rigid_rep hrg.1 hrr hr0], L'', hq⟩
              · exact rigid_any hrg.1 hr0
            · cases hr
          · cases hr
      · cases hr
    · exact viaV hr
  all_goals exact viaV hr

theorem regD_sound (hE : EnvOK P E) (hg : GlobOK E c) {ops : Array Oper} {Q : Act → Prop} {opl : List Oper} (hops : opl = ops.toList) : ∀ (rest : List Oper) (s : St) (a : Act), Sim c w L m s a → (regD E opl rest s).run = some s' →
    (∀ a', Sim c w L m s' a' → Q a') → wpQuiet P ops (Later w L) Q rest a
  | [], s, a, h, hr, hQ => by
    cases run_ret_inv hr
    exact wpQuiet_nil (hQ _ h)
  | o :: rest, s, a, h, hr, hQ => by
    obtain ⟨s1, h1, h2⟩ := tree_bind_some hr
    rw [forceSt_eq] at h2
    refine wpQuiet_step fun K hK => ?_
    rcases guardT_sound h hops h1 with ⟨hw, h3⟩ | ⟨hw, rfl⟩
    · rw [if_pos hw]
      obtain ⟨p, hp, rfl⟩ := put_bind h3
      obtain ⟨v, hv, hrep⟩ := opD_sound hE hg h hp
      exact ⟨v, hv, hK _ (regD_sound hE hg hops rest _ _ (h.put o.dst hrep) h2 hQ)⟩
    · rw [if_neg (by simp [hw])]
      exact hK _ (regD_sound hE hg hops rest _ _ (h.put o.dst (rep_gone _ _ _)) h2 hQ)

theorem opS_sound (hE : EnvOK P E) (hg : GlobOK E c) (h : Sim c w L m s a) {p : PVal} (hr : (opS E o s).run = some p) : ∃ v, (execOp a.eval o).run P w = .ok (.value v) w ∧ Rep w L m v p := by
  have hT := hE.T
  cases ho : o.op <;> simp only [opS, ho] at hr
  case move x =>
    cases run_ret_inv hr
    exact ⟨a.eval x, by simp only [execOp, ho]; rfl, ev_rep hg h x⟩
  case assign x =>
    cases run_ret_inv hr
    exact ⟨a.eval x, by simp only [execOp, ho]; rfl, evA_rep hg h o.type x⟩
  case load t x =>
    rw [hT] at hr
    have hrx := ev_rep hg h x
    have key : ∃ u, (∀ w' : World, (∀ b, b < w.heap.size → w'.heap[b]? = w.heap[b]?) → (Instr.loadAt t (a.eval x)).run P w' = .ok u w') ∧ Rep w L m u p := by
      cases hx : ev E s x with
      | ref y =>
        rw [hx] at hr hrx
        exact loadRef_all hrx hr
      | loc id off =>
        rw [hx] at hr hrx
        simp only [loadP] at hr
        exact loadH_all hrx h.hrel hr
      | _ => rw [hx] at hr; simp [loadP, Tree.run] at hr
    obtain ⟨u, hu, hrep⟩ := key
    refine ⟨u, ?_, hrep⟩
    simp only [execOp, ho]
    exact run_v (hu w fun b hb => rfl)
  case slice t x lo hi mx =>
    obtain ⟨⟨q, e⟩, hq, hr⟩ := tree_bind_some hr
    cases run_ret_inv hr
    rw [hT] at hq
    obtain ⟨v, hrun, hrep, _⟩ := slice_sound (ev_rep hg h x) (orep hg h lo) (orep hg h hi) (orep hg h mx) hq
    exact ⟨v, by simp only [execOp, ho]; exact run_v hrun, hrep⟩
  all_goals exact valT_sound hT hE.eqt hg h hr

theorem regS_sound (hE : EnvOK P E) (hg : GlobOK E c) {ops : Array Oper} {Q : Act → Prop} {opl : List Oper} (hops : opl = ops.toList) : ∀ (rest : List Oper) (s : St) (a : Act), Sim c w L m s a → (regS E opl rest s).run = some s' →
    (∀ a', Sim c w L m s' a' → Q a') → wpStill P ops w Q rest a
  | [], s, a, h, hr, hQ => by
    cases run_ret_inv hr
    exact wpStill_nil (hQ _ h)
  | o :: rest, s, a, h, hr, hQ => by
    obtain ⟨s1, h1, h2⟩ := tree_bind_some hr
    rw [forceSt_eq] at h2
    refine wpStill_step fun K hK => ?_
    rcases guardT_sound h hops h1 with ⟨hw, h3⟩ | ⟨hw, rfl⟩
    · rw [if_pos hw]
      obtain ⟨p, hp, rfl⟩ := put_bind h3
      obtain ⟨v, hv, hrep⟩ := opS_sound hE hg h hp
      unfold Oper.still
      rw [hv]
      exact ⟨rfl, hK _ (regS_sound hE hg hops rest _ _ (h.put o.dst hrep) h2 hQ)⟩
    · rw [if_neg (by simp [hw])]
      exact hK _ (regS_sound hE hg hops rest _ _ (h.put o.dst (rep_gone _ _ _)) h2 hQ)

theorem intOrNone_rep {w' : World} {L' : Nat → Nat} {v : Option Value} {p : Option PVal} (h : ORep w L m v p) (hi : intOrNone p = true) : ORep w' L' m v p := by
  cases h with
  | none => exact .none
  | some h =>
    rename_i v p
    refine .some (scal_any ?_ h)
    cases p <;> first | rfl | cases hi

theorem opW_sound (hE : EnvOK P E) (hg : GlobOK E c) (h : Sim c w L m s a) {p : PVal} (hr : (opW E o s).run = some p) : ∃ v, (∀ w', (execOp a.eval o).run P w' = .ok (.value v) w') ∧ Rep w L m v p := by
  have hT := hE.T
  cases ho : o.op <;> simp only [opW, ho] at hr
  case move x =>
    cases run_ret_inv hr
    exact ⟨a.eval x, fun w' => by simp only [execOp, ho]; rfl, ev_rep hg h x⟩
  case assign x =>
    cases run_ret_inv hr
    exact ⟨a.eval x, fun w' => by simp only [execOp, ho]; rfl, evA_rep hg h o.type x⟩
  case slice t x lo hi mx =>
    split at hr
    · rename_i b hx
      split at hr
      · rename_i hi3
        simp only [Bool.and_eq_true] at hi3
        obtain ⟨⟨q, e⟩, hq, hr⟩ := tree_bind_some hr
        simp only at hr
        split at hr
        · rename_i hsc
          cases run_ret_inv hr
          rw [hT] at hq
          have hv := ev_rep hg h x
          rw [hx] at hv
          have at_ : ∀ (w' : World), ∃ u, (Instr.sliceAt t (a.eval x) (lo.map a.eval) (hi.map a.eval) (mx.map a.eval)).run P w' = .ok u w' ∧ Rep w' (fun _ => 0) m u p := by
            intro w'
            obtain ⟨u, h1, h2, _⟩ := slice_sound (w := w') (L := fun _ => 0) (m := m) (scal_any rfl hv) (intOrNone_rep (orep hg h lo) hi3.1.1) (intOrNone_rep (orep hg h hi) hi3.1.2) (intOrNone_rep (orep hg h mx) hi3.2) hq
            exact ⟨u, h1, h2⟩
          obtain ⟨u, h1, h2⟩ := at_ w
          refine ⟨u, fun w' => ?_, scal_any hsc h2⟩
          obtain ⟨u', h1', h2'⟩ := at_ w'
          rw [scal_rep hsc h2 h2']
          simp only [execOp, ho]
          exact run_v h1'
        · cases hr
      · cases hr
    · cases hr
  all_goals cases hr

theorem drawG_sound (hE : EnvOK P E) (hg : GlobOK E c) {ops : Array Oper} {Q : Exit → Act → World → Prop} (hns : Region.noSelect ops = true) : ∀ (f : Nat) (listed : Array Bool) (s : St) (a : Act) (w : World) (L : Nat → Nat) (m : List Nat), Sim c w L m s a →
    (drawG E ops f listed s).run = some s' → (∀ a' w' L' m', Sim c w' L' m' s' a' → Q .normal a' w') → wpAny P .any ops (fun e a w => e = .normal ∧ Q .normal a w) f listed a w
  | 0, listed, s, a, w, L, m, h, hr, hQ => by
    unfold drawG at hr
    split at hr
    · rename_i he
      cases run_ret_inv hr
      exact ⟨List.isEmpty_iff.1 he, rfl, hQ _ _ _ _ h⟩
    · cases hr
  | f + 1, listed, s, a, w, L, m, h, hr, hQ => by
    unfold drawG at hr
    split at hr
    · rename_i he
      cases run_ret_inv hr
      exact wpAny_done he ⟨rfl, hQ _ _ _ _ h⟩ _
    · rename_i hne
      split at hr
      · rename_i i hi
        have hmem := List.mem_of_find?_eq_some hi
        have hfr := List.find?_some hi
        simp only [Bool.and_eq_true] at hfr
        split at hr
        · rename_i o ho
          obtain ⟨s1, h1, h2⟩ := tree_bind_some hr
          rw [forceSt_eq] at h2
          rcases guardT_sound h rfl h1 with ⟨hw, h3⟩ | ⟨hw, rfl⟩
          · obtain ⟨p, hp, rfl⟩ := put_bind h3
            obtain ⟨v, hv, hrep⟩ := opW_sound hE hg h hp
            exact wpAny_take ho hns hfr.1 (by simpa using hmem) (fun c a w hq => by cases hq.1) (.inl ⟨hw, hv⟩) (drawG_sound hE hg hns f _ _ _ w L m (h.put o.dst hrep) h2 hQ)
          · exact wpAny_take ho hns hfr.1 (by simpa using hmem) (fun c a w hq => by cases hq.1) (.inr ⟨hw, rfl⟩) (drawG_sound hE hg hns f _ _ _ w L m (h.put o.dst (rep_gone _ _ _)) h2 hQ)
        · cases hr
      · split at hr
        · rename_i i hri
          split at hr
          · rename_i o ho
            obtain ⟨s1, h1, h2⟩ := tree_bind_some hr
            rw [forceSt_eq] at h2
            refine wpAny_all hri (by simp) fun j hj => ?_
            cases List.mem_singleton.1 hj
            unfold wpOp
            rw [ho]
            rcases guardT_sound h rfl h1 with ⟨hw, h3⟩ | ⟨hw, rfl⟩
            · simp only [hw, if_true]
              exact .inl (opT_sound hE hg h ops.toList i h3 _ _ fun a' w' L' m' hs => drawG_sound hE hg hns f _ s1 a' w' L' m' hs h2 hQ)
            · simp only [hw, Bool.false_eq_true, if_false]
              exact drawG_sound hE hg hns f _ _ _ w L m (h.put o.dst (rep_gone _ _ _)) h2 hQ
          · cases hr
        · cases hr

theorem draw_ok (hE : EnvOK P E) (hg : GlobOK E c) (hm : P.follows .mixedOrders = true) : DrawOK P E c := by
  intro id ops s s' a w L m Q hr hs hQ
  have hq : Quiet w L w.drew L := Quiet.drew hs.new
  have hs' := hs.quiet hq
  unfold drawT at hr
  split at hr
  · rename_i hB
    simp only [Bool.and_eq_true] at hB
    refine wp_region_quiet (C := Later w.drew L) hm hB.1 ⟨L, Quiet.refl w.drew hs'.new⟩ ?_
    exact regD_sound hE hg rfl _ s a hs' hr fun a' ha' w' ⟨L', q⟩ => hQ a' w' L' m (ha'.quiet q)
  · split at hr
    · rename_i n hn
      obtain ⟨s1, h1, h2⟩ := tree_bind_some hr
      obtain ⟨n', hn', hn2⟩ := Option.bind_eq_some_iff.1 hn
      split at hn2
      · injection hn2 with hn2
        subst hn2
        have hB : Region.lexTailB .any ops.toList.toArray n' = true := by simpa using List.find?_some hn'
        have := wp_region_still_tail (P := P) (id := id) (Q := Q) (a := a) (w := w) (l := ops.toList) n' hm hB (by
          refine regS_sound (w := w.drew) hE hg (by simp) _ s a hs' h1 fun a' ha' => ?_
          exact regT_sound hE hg (by simp) (ops.toList.drop n') n' s1 a' w.drew L m ha' h2 hQ)
        simpa using this
      · cases hn2
    · split at hr
      · rename_i hns
        refine wp_mono (wp_region_any hm (drawG_sound (w := w.drew) (Q := Q) hE hg hns ops.size (Array.replicate ops.size false) s a L m hs' hr hQ)) fun e a w hq => ?_
        obtain ⟨rfl, hq⟩ := hq
        exact hq
      · cases hr

end Go.Pi
