/- Every operation. -/
import Derived.Test.YtgikackicafjbaaGreatDoorPiRun
set_option linter.unusedVariables false
set_option linter.unusedSimpArgs false
namespace Go.Pi

variable {P : Program} {E : Env} {c : Ctx} {w : World} {L : Nat → Nat} {m : List Nat} {s s' : St} {a : Act} {o : Oper}

theorem extract_sim (h : Sim c w L m s a) {t j sz : Nat} {ps ys : List PVal} {vs : Array Value} {v : Value} (hvt : s.v[t]? = some (.tup ps)) (hav : a.tmps[t]? = some (.tuple vs)) (hj : ps[j]? = some (.sl sz ys)) (hvj : vs[j]? = some v) (d : Option Tmp) :
    Sim c w L m ({ s with o := s.o.set t ((s.o.getD t []).set j false) }.put d (.sl sz ys) [(s.o.getD t []).getD j false]) (a.put d v) := by
  have inv : ∀ {who : Who} {u : Value} {sz' : Nat}, Holds w m { s with o := s.o.set t ((s.o.getD t []).set j false) } a.tmps who u sz' → Holds w m s a.tmps who u sz' ∧ who ≠ .slot t j := by
    intro who u sz' hh
    cases hh with
    | slot t' j' val pv _ _ xs hv hp ho hc hq =>
      by_cases e : t = t'
      · subst e
        simp only at ho
        have hlt : t < s.o.length := by rw [h.olen]; exact (List.getElem?_eq_some_iff.1 hp).1
        rw [List.getD_eq_getElem?_getD (l := s.o.set _ _), List.getElem?_set_self hlt] at ho
        simp only [Option.getD_some] at ho
        by_cases e2 : j = j'
        · subst e2
          rcases Nat.lt_or_ge j (s.o.getD t []).length with h1 | h1
          · rw [getD_set_self _ _ _ _ h1] at ho; cases ho
          · rw [List.getD_eq_getElem?_getD, List.getElem?_eq_none (by simpa using h1)] at ho; simp at ho
        · rw [getD_set_ne _ _ _ _ _ e2] at ho
          exact ⟨.slot t j' val pv u sz' xs hv hp ho hc hq, fun e => by injection e with _ e; exact e2 e.symm⟩
      · simp only at ho
        rw [List.getD_eq_getElem?_getD (l := s.o.set _ _), List.getElem?_set_ne e, ← List.getD_eq_getElem?_getD] at ho
        exact ⟨.slot t' j' val pv u sz' xs hv hp ho hc hq, fun e2 => by injection e2 with e2; exact e e2.symm⟩
    | cell i j' ob b cur e u' _ xs hi hb hp hv hq ho => exact ⟨.cell i j' ob b cur e u sz' xs hi hb hp hv hq ho, fun e => by cases e⟩
  have h1 : Sim c w L m { s with o := s.o.set t ((s.o.getD t []).set j false) } a :=
    { h with
      olen := by simpa using h.olen
      al := fun t hm ht hh => by cases hm <;> exact h.al t _ ht hh
      own := h.own.step id none (fun w1 u sz hh => .inl ⟨(inv hh).1, fun x hx => by cases hx⟩) (fun a b va vb sa sb _ _ hab _ => hab) (fun v sz hv _ => hv) (fun x hx => by cases hx) }
  have hrt := h.rep t _ _ hav hvt
  have hr : Rep w L m v (.sl sz ys) := by
    cases hrt with
    | tup _ _ hl hh => exact hh j v _ hvj hj
  have held : (s.o.getD t []).getD j false = true → Holds w m s a.tmps (.slot t j) v sz := fun ho => .slot t j _ _ v sz ys hav hvt ho hvj hj
  refine h1.put_own d _ hr (fun ho => h.own.tail _ v sz (held ho)) (fun ho who u sz' hh _ k hk hk' => ?_)
  obtain ⟨h2, h3⟩ := inv hh
  exact h3 (h.own.apart _ _ u v sz' sz k h2 (held ho) hk hk')

theorem exec_v {X : Sem Value} {v : Value} {w' : World} {L' : Nat → Nat} {m' : List Nat} (e : execOp a.eval o = (do pure (Next.value (← X)) : Sem Next)) (hx : X.run P w = .ok v w') (hs : Sim c w' L' m' s' (a.put o.dst v)) : Goes P c o w a s' :=
  goes_value (by rw [e]; exact run_v hx) hs

theorem exec_p {X : Sem Value} {t : Tree PVal} (h : Sim c w L m s a) (e : execOp a.eval o = (do pure (Next.value (← X)) : Sem Next)) (hr : (t.bind fun x => Tree.ret (s.put o.dst x)).run = some s')
    (hx : ∀ p, t.run = some p → ∃ v, X.run P w = .ok v w ∧ Rep w L m v p) : Goes P c o w a s' := by
  obtain ⟨p, hp, rfl⟩ := put_bind hr
  obtain ⟨v, hv, hrep⟩ := hx p hp
  exact exec_v e hv (h.put o.dst hrep)

theorem eval_tmp (a : Act) (t : Nat) : a.eval (.tmp t) = a.tmps.getD t undef := rfl

theorem loadH_sl {t : TypeId} {id off sz : Nat} {xs : List PVal} {v : Value} {h : List Ob} (hv : Rep w L m v (.loc id off)) (hr : HRel w L m h) (hl : (loadH (TY P) t h id off).run = some (.sl sz xs)) :
    ∃ (ob : Ob) (b : Nat) (cur : Array Value) (u : Value), h[id]? = some ob ∧ m[id]? = some b ∧ plainBlk w b cur ob.t ∧ cur[off]? = some u ∧ ob.cells[off]? = some (.sl sz xs) ∧ (Instr.loadAt t v).run P w = .ok u w ∧ Rep w L m u (.sl sz xs) := by
  cases hv with
  | loc _ _ b hb =>
    unfold loadH at hl
    split at hl
    · rename_i i ob hi hob
      split at hl
      · rename_i hle
        obtain ⟨ti, d, z, hti, hu, hd, hs, _⟩ := TY_inv hi
        obtain ⟨hL, cur, hp, hlen, h1, hc⟩ := hr.obj id ob b hob hb
        simp only [Instr.loadAt, Instr.sureAddr, Sem.run_bind, Sem.run_pure, Result.andThen_ok, loadVar, run_isAgg hu]
        rcases part_cells hi hl with ⟨ha, hle2, he⟩ | ⟨ha, hlt, he⟩
        · cases he
        · rw [hd] at ha
          rw [if_neg (by simp [ha])]
          have hlt2 : off < cur.size := by omega
          have hq : ob.cells[off]? = some (.sl sz xs) := by rw [he, List.getElem?_eq_getElem hlt]; simp [List.getD_eq_getElem?_getD, hlt]
          refine ⟨ob, b, cur, cur[off], hob, hb, hp, by simp [hlt2], hq, ?_, hc off _ _ (by simp [hlt2]) hq⟩
          simp only [run_load]
          rw [cell_of_row w b off cur ob.t (0, 0) hp, Array.getElem?_eq_getElem hlt2]
      · cases hl
    · cases hl

theorem load_sound (hg : GlobOK E c) (h : Sim c w L m s a) {t : TypeId} {x : Operand} {p : PVal} (hl : (loadP (TY P) t s.h (ev E s x)).run = some p) (d : Option Tmp) :
    ∃ v, (Instr.loadAt t (a.eval x)).run P w = .ok v w ∧ Sim c w L m (s.put d p [] (cellAl (ev E s x) p)) (a.put d v) := by
  have hr := ev_rep hg h x
  cases hx : ev E s x with
  | ref y =>
    rw [hx] at hl hr
    obtain ⟨v, hv, hp⟩ := loadRef_run hr hl
    exact ⟨v, hv, h.put d hp⟩
  | loc id off =>
    rw [hx] at hl hr
    simp only [loadP] at hl
    by_cases hsl : ∃ sz xs, p = .sl sz xs
    · obtain ⟨sz, xs, rfl⟩ := hsl
      obtain ⟨ob, b, cur, u, h1, h2, h3, h4, h5, hrun, hp⟩ := loadH_sl hr h.hrel hl
      refine ⟨u, hrun, h.put d hp _ fun d' hd' hm hal hne hlt => ?_⟩
      injection hal with hal
      subst hal
      refine ⟨ob, b, cur, h1, h2, h3, ?_, ?_⟩
      · rw [h4, Array.getElem?_setIfInBounds_self_of_lt (by rw [h.vlen]; exact hlt)]
      · rw [h5]; simp [St.put, hlt]
    · obtain ⟨v, hv, hp⟩ := loadH_run hr h.hrel hl
      refine ⟨v, hv, ?_⟩
      have : cellAl (.loc id off) p = none := by
        cases p <;> first | rfl | exact absurd ⟨_, _, rfl⟩ hsl
      rw [this]
      exact h.put d hp
  | _ => rw [hx] at hl; simp [loadP, Tree.run] at hl

theorem run_enter {g : FuncId} {fn : Func} (hfn : P.funcs[g]? = some fn) (hname : (fn.name == "runtime.NumGoroutine") = false) (hbody : fn.body.isNone = false) (vs : Array Value) : (callFunc g vs).run P w = .ok (.enter g vs) w := by
  simp only [callFunc, Sem.run_bind, run_program, Result.andThen_ok, hfn, hname, hbody, Bool.false_eq_true, if_false, Sem.run_pure]

theorem call_value (hE : EnvOK P E) (hg : GlobOK E c) (h : Sim c w L m s a) {cl : Call} {f : Operand} {g : FuncId} {first captured : List PVal} (ho : o.op = .call cl) (hc : cl.callee = .value f) (hf : ev E s f = .fn (.func g) first captured) :
    ∃ vs : List Value, vs.length = (first ++ evs E s cl.args.toList ++ captured).length ∧ (∀ (i : Nat) (v : Value) (p : PVal), vs[i]? = some v → (first ++ evs E s cl.args.toList ++ captured)[i]? = some p → Rep w L m v p) ∧
      (execOp a.eval o).run P w = (callFunc g vs.toArray).run P w := by
  have hr := ev_rep hg h f
  rw [hf] at hr
  generalize hu : a.eval f = u at hr
  cases hr with
  | fn _ vs us _ _ hl hk hh hh' =>
    refine ⟨vs.toList ++ cl.args.toList.map a.eval ++ us.toList, by simp [evs, hl, hk], fun i v p hv hp => ?_, ?_⟩
    · have hl1 : vs.toList.length = first.length := by simpa using hl
      have hl2 : (vs.toList ++ cl.args.toList.map a.eval).length = (first ++ evs E s cl.args.toList).length := by simp [evs, hl]
      rcases Nat.lt_or_ge i (vs.toList ++ cl.args.toList.map a.eval).length with h1 | h1
      · rw [List.getElem?_append_left h1] at hv
        rw [List.getElem?_append_left (by omega)] at hp
        rcases Nat.lt_or_ge i vs.toList.length with h2 | h2
        · rw [List.getElem?_append_left h2] at hv
          rw [List.getElem?_append_left (by omega)] at hp
          exact hh i v p (by simpa using hv) hp
        · rw [List.getElem?_append_right h2] at hv
          rw [List.getElem?_append_right (by omega), ← hl1] at hp
          simp only [evs, List.getElem?_map] at hv hp
          cases hx : cl.args.toList[i - vs.toList.length]? <;> rw [hx] at hv hp <;> simp at hv hp
          subst hv; subst hp
          exact ev_rep hg h _
      · rw [List.getElem?_append_right h1] at hv
        rw [List.getElem?_append_right (by omega), ← hl2] at hp
        exact hh' _ v p (by simpa using hv) hp
    · have e : (vs.toList ++ cl.args.toList.map a.eval ++ us.toList).toArray = vs ++ cl.args.map a.eval ++ us := by
        apply Array.ext'
        simp
      rw [e]
      simp only [execOp, ho, resolve, hc, hu, Deferred.ofValue, pure_bind, invoke]

theorem move_sound (hg : GlobOK E c) (h : Sim c w L m s a) (d : Option Tmp) (x : Operand) : Sim c w L m (s.put d (ev E s x) [] (slotAl x (ev E s x))) (a.put d (a.eval x)) := by
  refine h.put d (ev_rep hg h x) _ fun d' hd' hm hal hne hlt => ?_
  cases x with
  | tmp t =>
    have hsl : ∃ sz xs, ev E s (.tmp t) = .sl sz xs := by
      cases hx : ev E s (.tmp t) <;> rw [hx] at hal <;> first | exact ⟨_, _, rfl⟩ | cases hal
    have hal2 : hm = .slot t := by
      obtain ⟨sz, xs, hx⟩ := hsl
      rw [hx] at hal
      injection hal with hal
      exact hal.symm
    subst hal2
    have hdt : d' ≠ t := fun e => hne (by rw [e])
    have ht : t < s.v.length := by
      obtain ⟨sz, xs, hx⟩ := hsl
      rcases Nat.lt_or_ge t s.v.length with h1 | h1
      · exact h1
      · simp only [ev, St.get, List.getD_eq_getElem?_getD, List.getElem?_eq_none h1] at hx; cases hx
    have ht2 : t < a.tmps.size := by rw [h.vlen]; exact ht
    refine ⟨?_, ?_⟩
    · rw [Array.getElem?_setIfInBounds_self_of_lt (by rw [h.vlen]; exact hlt), Array.getElem?_setIfInBounds_ne hdt]
      simp [Act.eval, Array.getD_eq_getD_getElem?, ht2]
    · simp only [St.put, List.getElem?_set_self hlt, List.getElem?_set_ne hdt]
      simp [ev, St.get, List.getD_eq_getElem?_getD, ht]
  | _ => cases hx : ev E s _ <;> rw [hx] at hal <;> cases hal

theorem same_ext {w' : World} (h : ∀ (b : Nat), w'.heap[b]? = w.heap[b]?) : Ext w L m w' L m :=
  ⟨fun b o v _ hv => by rw [World.cell?_of_block (w := w) (h b)]; exact hv, fun _ => Nat.le_refl _, fun _ _ h => h⟩

theorem appendP_sound (h : Sim c w L m s a) {ts : List TypeId} {ty : TypeId} {x y r : PVal} {vx vy : Value} (rx : Rep w L m vx x) (ry : Rep w L m vy y) (tail : ∀ sz xs, x = .sl sz xs → TailOK w L m c.may sz vx)
    (free : ∀ (who : Who) (u : Value) (sz' : Nat), Holds w m s a.tmps who u sz' → ∀ k, tailBlk u = some k → tailBlk vx ≠ some k) (hr : (appendP (TY P) ts x y).run = some r) (d : Option Tmp) :
    ∃ v' w' L', (Builtin.append_ ts.toArray ty #[vx, vy]).run P w = .ok v' w' ∧ Sim c w' L' m (s.put d r [true]) (a.put d v') := by
  unfold appendP at hr
  split at hr
  · rename_i t t2
    split at hr
    · rename_i e s1 b1 z1 i2 sz xs ht ht2
      split at hr
      · rename_i i hi
        split at hr
        · cases hr
        · rename_i hc
          simp only [Bool.or_eq_true, decide_eq_true_eq, not_or, Bool.not_eq_true', Bool.not_eq_true, Bool.not_eq_false', Bool.and_eq_true, beq_iff_eq] at hc
          obtain ⟨⟨hz0, hszx⟩, hni⟩ := hc
          obtain ⟨_, d1, _, _, hu, hd1, _⟩ := TY_inv ht
          rw [td_slice hd1] at hu
          obtain ⟨tj, _, z, htj, _, _, hs, hby, hzz, _, hzs, _⟩ := TY_inv hi
          obtain ⟨_, d2, _, _, hu2, hd2, _⟩ := TY_inv ht2
          have hn2 : noInt d2 = true := by
            rw [hd2] at hni
            cases d2 <;> first | rfl | (simp [tdOf, TD.isInt] at hni)
          obtain ⟨A, n, cc, rfl⟩ : ∃ A n cc, vx = .slice A n cc := by cases rx <;> exact ⟨_, _, _, rfl⟩
          have hszx' : sz = tj.size ∨ (sz = 0 ∧ xs = []) := by
            cases hb : (sz == i.size || sz == 0 && xs.isEmpty) with
            | false => exact absurd hb hszx
            | true =>
              simp only [Bool.or_eq_true, beq_iff_eq, Bool.and_eq_true, List.isEmpty_iff] at hb
              rw [hs] at hb
              exact hb
          have h0 : 0 < tj.size := by omega
          split at hr
          · rename_i sz2 ys
            split at hr
            · rename_i hc2
              obtain ⟨hc, hr⟩ := tree_need hr
              simp only [Bool.and_eq_true, decide_eq_true_eq] at hc
              cases run_ret_inv hr
              simp only [Bool.or_eq_true, beq_iff_eq, List.isEmpty_iff] at hc2
              obtain ⟨B, k, c2, rfl⟩ : ∃ A n cc, vy = .slice A n cc := by cases ry <;> exact ⟨_, _, _, rfl⟩
              have hk : ys.length = k := by cases ry <;> simp_all
              rw [hs] at hc2 ⊢
              exact append_core (P := P) h (ty := ty) hu htj hzz hzs hu2 hn2 h0 rx hszx' (tail _ _ rfl) free (vy := .slice B k c2) (k := k) rfl hk (fun w' hw' => by
                obtain ⟨vs, he, hf, _⟩ := erep_of (P := P) (ry.ext (same_ext hw')) hc2
                exact ⟨vs, he, hf⟩) (by rw [← hby]; exact hc.1) hc.2 d
            · cases hr
          · rename_i ys
            split at hr
            · rename_i hc2
              obtain ⟨hc, hr⟩ := tree_need hr
              simp only [Bool.and_eq_true, decide_eq_true_eq] at hc
              simp only [Bool.and_eq_true, beq_iff_eq] at hc2
              cases run_ret_inv hr
              have hs1 : tj.size = 1 := by rw [← hs]; exact hc2.2
              cases ry with
              | str bb =>
                have := append_core (P := P) h (ty := ty) hu htj hzz hzs hu2 hn2 h0 rx hszx' (tail _ _ rfl) free (vy := .string bb) (k := bb.size) (ys := bb.data.toList.map fun x => PVal.int .u8 x.toNat) rfl (by simp) (fun w' hw' => by
                  rw [hs1]
                  exact erep_str bb) (by rw [← hby]; simpa using hc.1) (by simpa using hc.2) d
                rwa [hs1] at this
            · cases hr
          · cases hr
      · cases hr
    · cases hr
  · cases hr

theorem viewC_eq {z x : PVal} (h : fitC z x = true) : viewC z x = x := by
  cases z <;> first | rfl | skip
  · cases x <;> simp [fitC] at h
    subst h; rfl
  · cases x <;> first | rfl | (simp [fitC] at h)
  · cases x <;> first | rfl | (simp [fitC] at h)

theorem viewL_eq : ∀ {zs xs : List PVal}, fitL zs xs = true → viewL zs xs = xs
  | [], [], _ => rfl
  | z :: zs, x :: xs, h => by
    simp only [fitL, Bool.and_eq_true] at h
    simp only [viewL, List.headD_cons, List.tail_cons, viewC_eq h.1, viewL_eq h.2]
  | [], _ :: _, h => by simp [fitL] at h
  | _ :: _, [], h => by simp [fitL] at h

theorem viewT_eq {i : TI} {x : PVal} (h : fitT i x = true) : viewT i x = x := by
  unfold fitT at h
  unfold viewT
  split
  · rename_i ha
    rw [if_pos ha] at h
    cases x <;> first | (simp at h; done) | skip
    simp only [PVal.cells]
    rw [viewL_eq h]
  · rename_i ha
    rw [if_neg ha] at h
    exact viewC_eq h

theorem exec_val {X : Sem Value} {p : PVal} (e : execOp a.eval o = (do pure (Next.value (← X)) : Sem Next)) (hx : ∃ v, X.run P w = .ok v w ∧ Rep w L m v p) : ∃ v, (execOp a.eval o).run P w = .ok (.value v) w ∧ Rep w L m v p := by
  obtain ⟨v, hv, hr⟩ := hx
  exact ⟨v, by rw [e]; exact run_v hv, hr⟩

theorem exec_val1 {X : Sem Value} {v : Value} {p : PVal} (e : execOp a.eval o = (do pure (Next.value (← X)) : Sem Next)) (hx : X.run P w = .ok v w) (hr : Rep w L m v p) : ∃ v, (execOp a.eval o).run P w = .ok (.value v) w ∧ Rep w L m v p :=
  ⟨v, by rw [e]; exact run_v hx, hr⟩

theorem valT_sound (hT : E.T = TY P) (he : EqtOK P E.eqt) (hg : GlobOK E c) (h : Sim c w L m s a) {p : PVal} (hr : (valT E o s).run = some p) : ∃ v, (execOp a.eval o).run P w = .ok (.value v) w ∧ Rep w L m v p := by
  cases ho : o.op <;> simp only [valT, ho] at hr
  case pick x y z =>
    split at hr
    · rename_i b hx
      have hb := ev_rep hg h x
      rw [hx] at hb
      generalize hu : a.eval x = u at hb
      cases hb
      have e : (execOp a.eval o).run P w = .ok (.value (if b then a.eval y else a.eval z)) w := by
        simp only [execOp, ho, hu, asBool]; cases b <;> rfl
      cases b
      · cases run_ret_inv hr
        exact ⟨_, e, ev_rep hg h z⟩
      · cases run_ret_inv hr
        exact ⟨_, e, ev_rep hg h y⟩
    · cases hr
  case build t parts =>
    refine exec_val (by simp only [execOp, ho]; rfl) ?_
    rw [hT] at hr
    exact build_sound (prep hg h parts) hr
  case nilCheck x =>
    have hb := ev_rep hg h x
    split at hr
    · rename_i id off hx
      rw [hx] at hb
      cases run_ret_inv hr
      generalize hu : a.eval x = u at hb
      refine ⟨u, ?_, hb⟩
      cases hb
      simp only [execOp, ho, hu]; rfl
    · rename_i y hx
      rw [hx] at hb
      cases run_ret_inv hr
      generalize hu : a.eval x = u at hb
      refine ⟨u, ?_, hb⟩
      cases hb
      simp only [execOp, ho, hu]; rfl
    · rename_i f p q hx
      rw [hx] at hb
      cases run_ret_inv hr
      generalize hu : a.eval x = u at hb
      refine ⟨u, ?_, hb⟩
      cases hb
      simp only [execOp, ho, hu]; rfl
    · cases hr
  case binOp op t x y g =>
    refine exec_val (by simp only [execOp, ho]; rfl) ?_
    exact bin_sound hT he (ev_rep hg h x) (ev_rep hg h y) hr
  case unOp op t x =>
    refine exec_val (by simp only [execOp, ho]; rfl) ?_
    exact un_sound (ev_rep hg h x) hr
  case convert t t2 x =>
    refine exec_val (by simp only [execOp, ho]; rfl) ?_
    rw [hT] at hr
    exact conv_sound (ev_rep hg h x) hr
  case fieldAddr t x f =>
    split at hr
    · rename_i fs sz b z ht
      rw [hT] at ht
      split at hr
      · rename_i fo ft hf
        split at hr
        · rename_i fi id off hft hx
          rw [hT] at hft
          have hb := ev_rep hg h x
          rw [hx] at hb
          split at hr
          · cases hr
          · rename_i hsz
            cases run_ret_inv hr
            generalize hu : a.eval x = u at hb
            cases hb with
            | loc _ _ bb hbb =>
              exact exec_val1 (by simp only [execOp, ho]; rfl) (by rw [hu]; exact fieldAt_run ht hf hft hsz bb off) (.loc _ _ bb hbb)
        · rename_i fi cs hft hx
          rw [hT] at hft
          have hb := ev_rep hg h x
          rw [hx] at hb
          split at hr
          · cases hr
          · rename_i hsz
            have hp := hr
            rw [hT] at hp
            obtain ⟨i', q, hi', hq, rfl, h1⟩ := refPart_inv hp
            obtain ⟨bb, oo, cv, hv, _⟩ := rep_ref_inv hb
            rw [hv] at hb
            exact exec_val1 (by simp only [execOp, ho]; rfl) (by rw [hv]; exact fieldAt_run ht hf hft hsz bb oo) (ref_part hb hi' h1 hq)
        · cases hr
      · cases hr
    · cases hr
  case field t x f =>
    split at hr
    · rename_i fs sz b z cs ht hx
      rw [hT] at ht
      have hb := ev_rep hg h x
      rw [hx] at hb
      split at hr
      · rename_i fp hf
        refine exec_val (by simp only [execOp, ho]; rfl) ?_
        rw [hT] at hr
        exact field_sound ht hb hf hr
      · cases hr
    · cases hr
  case indexAddr t x ix =>
    split at hr
    · rename_i e s1 b1 z1 sz xs k n ht hx hn
      rw [hT] at ht
      have hb := ev_rep hg h x
      have hbn := ev_rep hg h ix
      rw [hx] at hb
      rw [hn] at hbn
      split at hr
      · rename_i ti he
        rw [hT] at he
        split at hr
        · rename_i hsz
          obtain ⟨hc, hr⟩ := tree_need hr
          simp only [Bool.and_eq_true, decide_eq_true_eq] at hc
          obtain ⟨hft, hr⟩ := tree_need hr
          have hvw : viewT ti (xs.getD n.toNat .junk) = xs.getD n.toNat .junk := viewT_eq (List.all_eq_true.1 (show xs.all (fitT ti) = true by rw [hT] at hft; unfold fitAll at hft; rw [he] at hft; exact hft) _ (by
            rw [List.getD_eq_getElem?_getD, List.getElem?_eq_getElem (show n.toNat < xs.length by omega)]
            simp))
          rw [hvw] at hr
          cases run_ret_inv hr
          generalize hun : a.eval ix = un at hbn
          cases hbn
          obtain ⟨u, hu, hrep⟩ := indexSl_run ht he hsz hb hc.1 hc.2
          exact exec_val1 (by simp only [execOp, ho]; rfl) (by rw [hun]; exact hu) hrep
        · cases hr
      · cases hr
    · rename_i len e s1 b1 z1 id off k n ht hx hn
      rw [hT] at ht
      have hb := ev_rep hg h x
      have hbn := ev_rep hg h ix
      rw [hx] at hb
      rw [hn] at hbn
      split at hr
      · rename_i ti he
        rw [hT] at he
        obtain ⟨hc, hr⟩ := tree_need hr
        simp only [Bool.and_eq_true, decide_eq_true_eq] at hc
        cases run_ret_inv hr
        generalize hun : a.eval ix = un at hbn
        generalize hux : a.eval x = ux at hb
        cases hbn
        cases hb with
        | loc _ _ bb hbb =>
          exact exec_val1 (by simp only [execOp, ho]; rfl) (by rw [hun, hux]; exact indexArr_run ht he hc.1 hc.2 bb off) (.loc _ _ bb hbb)
      · cases hr
    · rename_i len e s1 b1 z1 cs k n ht hx hn
      rw [hT] at ht
      have hb := ev_rep hg h x
      have hbn := ev_rep hg h ix
      rw [hx] at hb
      rw [hn] at hbn
      split at hr
      · rename_i ti he
        rw [hT] at he
        obtain ⟨hc, hr⟩ := tree_need hr
        simp only [Bool.and_eq_true, decide_eq_true_eq] at hc
        have hp := hr
        rw [hT] at hp
        obtain ⟨i', q, hi', hq, rfl, h1⟩ := refPart_inv hp
        obtain ⟨bb, oo, cv, hv, _⟩ := rep_ref_inv hb
        rw [hv] at hb
        generalize hun : a.eval ix = un at hbn
        cases hbn
        exact exec_val1 (by simp only [execOp, ho]; rfl) (by rw [hun, hv]; exact indexArr_run ht he hc.1 hc.2 bb oo) (ref_part hb hi' h1 hq)
      · cases hr
    · cases hr
  case index t x ix =>
    split at hr
    · rename_i s1 b1 z1 bs k n ht hx hn
      rw [hT] at ht
      have hb := ev_rep hg h x
      have hbn := ev_rep hg h ix
      rw [hx] at hb
      rw [hn] at hbn
      obtain ⟨hc, hr⟩ := tree_need hr
      simp only [Bool.and_eq_true, decide_eq_true_eq] at hc
      cases run_ret_inv hr
      generalize hun : a.eval ix = un at hbn
      generalize hux : a.eval x = ux at hb
      cases hbn
      cases hb with
      | str bs =>
        exact exec_val1 (by simp only [execOp, ho]; rfl) (by rw [hun, hux]; exact indexStr_run ht bs hc.1 (by omega)) (.int _ _)
    · rename_i len e s1 b1 z1 cs k n ht hx hn
      rw [hT] at ht
      have hb := ev_rep hg h x
      have hbn := ev_rep hg h ix
      rw [hx] at hb
      rw [hn] at hbn
      split at hr
      · rename_i ti he
        rw [hT] at he
        obtain ⟨hc, hr⟩ := tree_need hr
        simp only [Bool.and_eq_true, decide_eq_true_eq] at hc
        refine exec_val (by simp only [execOp, ho]; rfl) ?_
        rw [hT] at hr
        generalize hun : a.eval ix = un at hbn
        cases hbn
        exact indexAgg_run ht he hb hc.1 hc.2 hr
      · cases hr
    · cases hr
  case makeFunc f x y =>
    cases run_ret_inv hr
    have key : ∀ (xs : Array Operand) (i : Nat) (v : Value) (p : PVal), (xs.map a.eval)[i]? = some v → (evs E s xs.toList)[i]? = some p → Rep w L m v p := by
      intro xs i v p hv hp
      simp only [evs, List.getElem?_map] at hp
      simp only [Array.getElem?_map] at hv
      rw [Array.getElem?_toList] at hp
      cases hx : xs[i]? <;> rw [hx] at hv hp <;> simp at hv hp
      subst hv; subst hp
      exact ev_rep hg h _
    exact exec_val1 (v := .func f (x.map a.eval) (y.map a.eval)) (by simp only [execOp, ho]; rfl) rfl (.fn _ _ _ _ _ (by simp [evs]) (by simp [evs]) (key x) (key y))
  case call cl =>
    split at hr
    · rename_i b hcal
      split at hr
      · rename_i x hargs
        have hb := ev_rep hg h x
        have hA : cl.args = #[x] := by apply Array.ext'; rw [hargs]
        have key : ∀ (t : TypeId) (v : Value), cl.argTypes.toList[0]? = some t → (Builtin.len_ cl.argTypes o.type #[a.eval x]).run P w = .ok v w → (execOp a.eval o).run P w = .ok (.value v) w := by
          intro t v ht hv
          simp only [execOp, ho, resolve, hcal, hA, pure_bind, invoke, builtin]
          exact run_v (by simpa using hv)
        split at hr
        · rename_i s1 b1 z1 bs ht hx
          rw [hx] at hb
          obtain ⟨t, ht0, ht⟩ := Option.bind_eq_some_iff.1 ht
          rw [hT] at ht
          obtain ⟨_, d1, _, _, hu, hd1, _⟩ := TY_inv ht
          rw [td_str hd1] at hu
          cases run_ret_inv hr
          generalize hux : a.eval x = ux at hb key
          cases hb with
          | str bs =>
            refine ⟨_, key t (goInt bs.size) ht0 ?_, by simpa [goInt] using Rep.int .i64 bs.size⟩
            have ht1 : cl.argTypes[0]? = some t := by simpa using ht0
            simp [Builtin.len_, ht1, run_underlying hu]
        · rename_i s1 b1 z1 e sz xs ht hx
          rw [hx] at hb
          obtain ⟨t, ht0, ht⟩ := Option.bind_eq_some_iff.1 ht
          rw [hT] at ht
          obtain ⟨_, d1, _, _, hu, hd1, _⟩ := TY_inv ht
          rw [td_slice hd1] at hu
          cases run_ret_inv hr
          generalize hux : a.eval x = ux at hb key
          obtain ⟨A, n, cc, rfl⟩ : ∃ A n cc, ux = .slice A n cc := by cases hb <;> exact ⟨_, _, _, rfl⟩
          have hn : xs.length = n := by cases hb <;> simp_all
          refine ⟨_, key t (goInt n) ht0 ?_, by rw [hn]; exact Rep.int .i64 n⟩
          have ht1 : cl.argTypes[0]? = some t := by simpa using ht0
          simp [Builtin.len_, ht1, run_underlying hu]
        · cases hr
      · rename_i x y hargs
        have hA : cl.args = #[x, y] := by apply Array.ext'; rw [hargs]
        have hbx := ev_rep hg h x
        have hby := ev_rep hg h y
        split at hr
        · rename_i k n k' n' hx hy
          rw [hx] at hbx
          rw [hy] at hby
          generalize hux : a.eval x = ux at hbx
          generalize huy : a.eval y = uy at hby
          cases hbx
          cases hby
          cases run_ret_inv hr
          refine ⟨_, ?_, .int _ _⟩
          simp only [execOp, ho, resolve, hcal, hA, pure_bind, invoke, builtin]
          exact run_v (by simp [Builtin.max_, Builtin.max2, hux, huy])
        · cases hr
      · rename_i x y hargs
        have hA : cl.args = #[x, y] := by apply Array.ext'; rw [hargs]
        have hbx := ev_rep hg h x
        have hby := ev_rep hg h y
        split at hr
        · rename_i k n k' n' hx hy
          rw [hx] at hbx
          rw [hy] at hby
          generalize hux : a.eval x = ux at hbx
          generalize huy : a.eval y = uy at hby
          cases hbx
          cases hby
          cases run_ret_inv hr
          refine ⟨_, ?_, .int _ _⟩
          simp only [execOp, ho, resolve, hcal, hA, pure_bind, invoke, builtin]
          exact run_v (by simp [Builtin.min_, Builtin.min2, hux, huy])
        · cases hr
      · cases hr
    all_goals cases hr
  all_goals cases hr

theorem opT_val (hE : EnvOK P E) (hg : GlobOK E c) (h : Sim c w L m s a) (hr : ((valT E o s).bind fun x => Tree.ret (s.put o.dst x)).run = some s') : Goes P c o w a s' := by
  obtain ⟨p, hp, rfl⟩ := put_bind hr
  obtain ⟨v, hv, hrep⟩ := valT_sound hE.T hE.eqt hg h hp
  exact goes_value hv (h.put o.dst hrep)

theorem opT_sound (hE : EnvOK P E) (hg : GlobOK E c) (h : Sim c w L m s a) (ops : List Oper) (i : Nat) (hr : (opT E ops i o s).run = some s') : Goes P c o w a s' := by
  have hT := hE.T
  cases ho : o.op <;> simp only [opT, ho] at hr
  case move x =>
    cases run_ret_inv hr
    exact goes_value (by simp only [execOp, ho]; rfl) (move_sound hg h _ x)
  case assign x =>
    cases run_ret_inv hr
    refine goes_value (by simp only [execOp, ho]; rfl) (h.assign o.dst x (evA_rep hg h o.type x) (fun t e => by subst e; exact ⟨rfl, rfl⟩) (fun e => by subst e; rfl))
  case alloc t =>
    split at hr
    · rename_i ti ht
      rw [hT] at ht
      cases run_ret_inv hr
      obtain ⟨w', v, hrun, hs⟩ := alloc_sound (o := o) h ht
      exact exec_v (by simp only [execOp, ho]) hrun hs
    · cases hr
  case box t x =>
    split at hr
    · split at hr
      · rename_i hc
        simp only [Bool.and_eq_true] at hc
        cases run_ret_inv hr
        obtain ⟨w', v, hrun, hs⟩ := box_sound (P := P) (o := o) (t := t) hg h hc.1
        exact exec_v (by simp only [execOp, ho]) hrun hs
      · cases hr
    · cases hr
  case buildSlice t len parts =>
    obtain ⟨p, hp, hr⟩ := tree_bind_some hr
    cases run_ret_inv hr
    rw [hT] at hp
    obtain ⟨out, e, sz, xs, rfl, hrun, hrep⟩ := buildSl_sound h.new (prep hg h parts) hp
    refine exec_v (by simp only [execOp, ho]) hrun ((h.quiet (Quiet.alloc (.cells out e) (len * sz) h.new)).put_own o.dst true hrep (fun _ A n cc e hlt => by injection e with _ e2 e3; omega) (fun _ who u sz' _ _ k _ => by simp [tailBlk]))
  case load t x =>
    obtain ⟨p, hp, hr⟩ := tree_bind_some hr
    cases run_ret_inv hr
    rw [hT] at hp
    obtain ⟨v, hrun, hs⟩ := load_sound hg h hp o.dst
    exact exec_v (by simp only [execOp, ho]) hrun hs
  case store t x y =>
    obtain ⟨s1, hp, hr⟩ := tree_bind_some hr
    cases run_ret_inv hr
    rw [hT] at hp
    obtain ⟨w', hrun, hs⟩ := store_sound hg h hp
    exact goes_skip (by simp only [execOp, ho, Sem.run_bind, hrun]; rfl) (hs.put o.dst (.junk _))
  case slice t x lo hi mx =>
    obtain ⟨⟨p, e⟩, hp, hr⟩ := tree_bind_some hr
    cases run_ret_inv hr
    rw [hT] at hp
    obtain ⟨v, hrun, hrep, he⟩ := slice_sound (ev_rep hg h x) (orep hg h lo) (orep hg h hi) (orep hg h mx) hp
    refine exec_v (L' := L) (m' := m) (by simp only [execOp, ho]) hrun ?_
    cases e with
    | false => exact h.put o.dst hrep
    | true =>
      obtain ⟨⟨sz, xs, rfl⟩, hx⟩ := he rfl
      exact h.put_own o.dst true hrep (fun _ A n cc e hlt => by have := hx A n cc e; omega) (fun _ who u sz' _ _ k _ => by
        intro hk
        unfold tailBlk at hk
        split at hk
        · split at hk
          · rename_i hlt
            have := hx _ _ _ rfl; omega
          · cases hk
        · cases hk)
  case extract x j =>
    split at hr
    · rename_i t xs hx
      split at hr
      · rename_i hj
        have hb := ev_rep hg h (.tmp t)
        rw [hx] at hb
        have ht : t < s.v.length := by
          rcases Nat.lt_or_ge t s.v.length with h1 | h1
          · exact h1
          · simp only [ev, St.get, List.getD_eq_getElem?_getD, List.getElem?_eq_none h1] at hx; cases hx
        have ht2 : t < a.tmps.size := by rw [h.vlen]; exact ht
        have hvt : s.v[t]? = some (.tup xs) := by
          simp only [ev, St.get, List.getD_eq_getElem?_getD, List.getElem?_eq_getElem ht, Option.getD_some] at hx
          rw [List.getElem?_eq_getElem ht, hx]
        have hav : a.tmps[t]? = some (a.eval (.tmp t)) := by simp [Act.eval, Array.getD_eq_getD_getElem?, ht2]
        generalize hu : a.eval (.tmp t) = u at hb hav
        cases hb with
        | tup vs _ hl hh =>
          have hjv : j < vs.size := by omega
          have hrun : (Instr.extract (a.eval (.tmp t)) j).run P w = .ok vs[j] w := by
            rw [hu]; simp [Instr.extract, hjv]
          have hrj : Rep w L m vs[j] (xs.getD j .junk) := hh j _ _ (by simp [hjv]) (by simp [List.getD_eq_getElem?_getD, hj])
          split at hr
          · rename_i sz ys hsl
            cases run_ret_inv hr
            exact exec_v (by simp only [execOp, ho]) hrun (extract_sim h hvt hav (by rw [← hsl]; simp [List.getD_eq_getElem?_getD, hj]) (by simp [hjv]) o.dst)
          · cases run_ret_inv hr
            exact exec_v (by simp only [execOp, ho]) hrun (h.put o.dst hrj)
      · cases hr
    · cases hr
  case call cl =>
    split at hr
    · rename_i f hcal
      split at hr
      · rename_i g first captured hf
        obtain ⟨vs, hlen, hvs, hrun⟩ := call_value hE hg h ho hcal hf
        split at hr
        · rename_i F hF
          split at hr
          · rename_i p hp
            cases run_ret_inv hr
            obtain ⟨v, hv, hrep⟩ := hE.ext g F hF w L m vs _ p hlen hvs hp
            exact goes_value (by rw [hrun]; exact hv) (h.put o.dst hrep)
          · cases hr
        · rename_i hF
          split at hr
          · rename_i hall
            obtain ⟨r, hcall, hr⟩ := tree_bind_some hr
            split at hr
            · rename_i hemp
              have hemp : r.h = [] := by simpa using hemp
              cases run_ret_inv hr
              obtain ⟨⟨fn, hfn, hname, hbody⟩, hcalls⟩ := hE.call g _ _ r hF hcall
              intro K Q hK
              unfold Oper.wp
              rw [hrun, run_enter hfn hname hbody, Oper.upon_enter]
              refine (hcalls w L [] (fun _ => False) vs.toArray (h.enter0 hlen hvs (fun p hp => List.all_eq_true.1 hall p hp)) (fun g x hgx => ((hg g x hgx).ext h.ext).anew (hE.globNL g x hgx))).mono fun e w' he => ?_
              obtain ⟨v, L', m', rfl, hs⟩ := he
              exact hK _ _ _ _ (h.back0 hs hemp o.dst)
            · cases hr
          · obtain ⟨r, hcall, hr⟩ := tree_bind_some hr
            cases run_ret_inv hr
            obtain ⟨⟨fn, hfn, hname, hbody⟩, hcalls⟩ := hE.call g _ _ r hF hcall
            intro K Q hK
            unfold Oper.wp
            rw [hrun, run_enter hfn hname hbody, Oper.upon_enter]
            refine (hcalls w L m (touch w m s) vs.toArray (h.enter hlen hvs) (fun g x hgx => (hg g x hgx).ext h.ext)).mono fun e w' he => ?_
            obtain ⟨v, L', m', rfl, hs⟩ := he
            exact hK _ _ _ _ (h.back hs o.dst)
      · cases hr
    · cases hr
    · rename_i hcal
      split at hr
      · rename_i t y hargs
        have hA : cl.args = #[.tmp t, y] := by apply Array.ext'; rw [hargs]
        split at hr
        · rename_i hm hh
          obtain ⟨r, hp, hr⟩ := tree_bind_some hr
          cases run_ret_inv hr
          rw [hT] at hp
          have hsl : ∃ sz xs, s.get t = .sl sz xs := by
            unfold appendP at hp
            split at hp
            · split at hp
              · rename_i h1 h2; exact ⟨_, _, by assumption⟩
              · cases hp
            · cases hp
          obtain ⟨sz, xs, hsl⟩ := hsl
          obtain ⟨who, hw, he⟩ := home_holds h hh hsl rfl
          obtain ⟨h1, free, hv1⟩ := clear_sim h hw he
          have rx := ev_rep hg h (.tmp t)
          obtain ⟨v', w', L', hrun, hs⟩ := appendP_sound (ty := o.type) h1 rx (ev_rep hg h y) (fun sz' xs' e => by
            have e2 : s.get t = .sl sz' xs' := e
            rw [hsl] at e2
            injection e2 with e2 e3
            subst e2
            exact h.own.tail _ _ _ hw) free hp o.dst
          refine goes_value ?_ hs
          simp only [execOp, ho, resolve, hcal, hA, pure_bind, invoke, builtin]
          exact run_v (by simpa using hrun)
        · cases hr
      · rename_i y hargs
        have hA : cl.args = #[.const (.slice none 0 0), y] := by apply Array.ext'; rw [hargs]
        obtain ⟨r, hp, hr⟩ := tree_bind_some hr
        cases run_ret_inv hr
        rw [hT] at hp
        obtain ⟨v', w', L', hrun, hs⟩ := appendP_sound (ty := o.type) (vx := .slice none 0 0) h (.sl0 _ _ _) (ev_rep hg h y) (fun sz' xs' e A n cc e2 hlt => by injection e2 with _ e3 e4; omega) (fun who u sz' _ k _ => by simp [tailBlk]) hp o.dst
        refine goes_value ?_ hs
        simp only [execOp, ho, resolve, hcal, hA, pure_bind, invoke, builtin]
        exact run_v (by simpa [Act.eval] using hrun)
      · cases hr
    · exact opT_val hE hg h hr
  all_goals exact opT_val hE hg h hr

end Go.Pi
