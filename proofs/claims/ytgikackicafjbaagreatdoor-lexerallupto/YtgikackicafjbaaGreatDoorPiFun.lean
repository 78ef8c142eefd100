/- A function. -/
import Derived.Test.YtgikackicafjbaaGreatDoorPiExec
set_option linter.unusedVariables false
set_option linter.unusedSimpArgs false
namespace Go.Pi

variable {P : Program} {E : Env} {c : Ctx} {w : World} {L : Nat → Nat} {m : List Nat} {s s' : St} {a : Act} {o : Oper}

/-- A result as the machine fetches it. -/
def oneRes (tmps : Array Value) : ResultVar → Sem Value
  | .tmp t => pure (tmps.getD t undef)
  | .cell a t => do loadVar t (← asAddr (tmps.getD a undef))

theorem results_eq (fn : Func) (tmps : Array Value) : results fn tmps = (do
    let vs ← fn.results.mapM (oneRes tmps)
    pure (if h : vs.size = 1 then vs[0] else .tuple vs)) := rfl

theorem loadAt_var {t : TypeId} {v u : Value} (h : (Instr.loadAt t v).run P w = .ok u w) (hp : ∃ ad, v = .pointer (some ad)) : (do loadVar t (← asAddr v) : Sem Value).run P w = .ok u w := by
  obtain ⟨ad, rfl⟩ := hp
  simpa [Instr.loadAt, Instr.sureAddr, asAddr] using h

theorem resOne_sound (hT : E.T = TY P) (h : Sim c w L m s a) {rv : ResultVar} {p : PVal} {b : Bool} (hr : (resOne E s rv).run = some (p, b)) :
    ∃ v, (oneRes a.tmps rv).run P w = .ok v w ∧ Rep w L m v p ∧ (b = true → ∃ t, rv = .tmp t ∧ ∀ u sz xs, compV v 0 = some u → compP p 0 = some (.sl sz xs) → Holds w m s a.tmps (.slot t 0) u sz) := by
  cases rv with
  | tmp t =>
    have e := run_ret_inv hr
    injection e with e1 e2
    subst e1; subst e2
    have hrep : Rep w L m (a.tmps.getD t undef) (s.get t) := by
      rcases Nat.lt_or_ge t a.tmps.size with ht | ht
      · have ht' : t < s.v.length := by rw [← h.vlen]; exact ht
        have := h.rep t _ _ (Array.getElem?_eq_getElem ht) (List.getElem?_eq_getElem ht')
        simpa [Array.getD_eq_getD_getElem?, ht, St.get, List.getD_eq_getElem?_getD, ht'] using this
      · simp only [St.get, List.getD_eq_getElem?_getD]
        rw [List.getElem?_eq_none (by rw [← h.vlen]; exact ht)]
        exact .junk _
    refine ⟨a.tmps.getD t undef, rfl, hrep, fun ho => ⟨t, rfl, fun u sz xs hc hq => ?_⟩⟩
    have h1 := get_some (s := s) (t := t) rfl (fun e => by rw [e] at hq; cases hq)
    have hlt : t < a.tmps.size := by rw [h.vlen]; exact (List.getElem?_eq_some_iff.1 h1).1
    have hv : a.tmps[t]? = some (a.tmps.getD t undef) := by simp [Array.getD_eq_getD_getElem?, hlt]
    exact .slot t 0 _ _ u sz xs hv h1 ho hc hq
  | cell x t =>
    simp only [resOne] at hr
    obtain ⟨q, hq, hr⟩ := tree_bind_some hr
    have e := run_ret_inv hr
    injection e with e1 e2
    subst e1; subst e2
    have hrep : Rep w L m (a.tmps.getD x undef) (s.get x) := by
      rcases Nat.lt_or_ge x a.tmps.size with ht | ht
      · have ht' : x < s.v.length := by rw [← h.vlen]; exact ht
        have := h.rep x _ _ (Array.getElem?_eq_getElem ht) (List.getElem?_eq_getElem ht')
        simpa [Array.getD_eq_getD_getElem?, ht, St.get, List.getD_eq_getElem?_getD, ht'] using this
      · simp only [St.get, List.getD_eq_getElem?_getD]
        rw [List.getElem?_eq_none (by rw [← h.vlen]; exact ht)]
        exact .junk _
    rw [hT] at hq
    have key : ∃ v, (Instr.loadAt t (a.tmps.getD x undef)).run P w = .ok v w ∧ Rep w L m v q ∧ ∃ ad, a.tmps.getD x undef = .pointer (some ad) := by
      cases hx : s.get x with
      | ref y =>
        rw [hx] at hq hrep
        obtain ⟨v, hv, hp⟩ := loadRef_run hrep hq
        obtain ⟨b', o', cv, he, _⟩ := rep_ref_inv hrep
        exact ⟨v, hv, hp, _, he⟩
      | loc id off =>
        rw [hx] at hq hrep
        simp only [loadP] at hq
        obtain ⟨v, hv, hp⟩ := loadH_run hrep h.hrel hq
        exact ⟨v, hv, hp, by generalize a.tmps.getD x undef = u at hrep; cases hrep; exact ⟨_, rfl⟩⟩
      | _ => rw [hx] at hq; simp [loadP, Tree.run] at hq
    obtain ⟨v, hv, hp, hpt⟩ := key
    exact ⟨v, loadAt_var hv hpt, hp, fun hb => by cases hb⟩

theorem resAll_sound (hT : E.T = TY P) (h : Sim c w L m s a) : ∀ {l : List ResultVar} {ps : List (PVal × Bool)}, (resAll E s l).run = some ps →
    ∃ vs : List Value, (l.mapM (oneRes a.tmps)).run P w = .ok vs w ∧ vs.length = ps.length ∧ l.length = ps.length ∧
      ∀ (i : Nat) (v : Value) (pb : PVal × Bool), vs[i]? = some v → ps[i]? = some pb → Rep w L m v pb.1 ∧ (pb.2 = true → ∃ t, l[i]? = some (.tmp t) ∧ ∀ u sz xs, compV v 0 = some u → compP pb.1 0 = some (.sl sz xs) → Holds w m s a.tmps (.slot t 0) u sz)
  | [], ps, hr => by
    cases run_ret_inv hr
    exact ⟨[], by simp, rfl, rfl, fun i v pb hv => by simp at hv⟩
  | rv :: l, ps, hr => by
    simp only [resAll] at hr
    obtain ⟨⟨p, b⟩, h1, hr⟩ := tree_bind_some hr
    obtain ⟨qs, h2, hr⟩ := tree_bind_some hr
    cases run_ret_inv hr
    obtain ⟨v, hv, hrep, hb⟩ := resOne_sound hT h h1
    obtain ⟨vs, hvs, hl, hl2, hall⟩ := resAll_sound hT h h2
    refine ⟨v :: vs, by simp [List.mapM_cons, hv, hvs], by simp [hl], by simp [hl2], fun i u pb hu hp => ?_⟩
    cases i with
    | zero =>
      simp at hu hp
      subst hu; subst hp
      refine ⟨hrep, fun hbt => ?_⟩
      obtain ⟨t, e, hh⟩ := hb hbt
      exact ⟨t, by simp [e], hh⟩
    | succ i => exact hall i u pb (by simpa using hu) (by simpa using hp)

theorem resTmps_inj : ∀ {l : List ResultVar} {i j t : Nat}, noDup (resTmps l) = true → l[i]? = some (.tmp t) → l[j]? = some (.tmp t) → i = j
  | [], i, j, t, _, h, _ => by simp at h
  | rv :: l, i, j, t, hd, hi, hj => by
    have mem : ∀ (l : List ResultVar) (k : Nat), l[k]? = some (.tmp t) → t ∈ resTmps l := by
      intro l
      induction l with
      | nil => intro k h; simp at h
      | cons rv l ih =>
        intro k h
        cases k with
        | zero => simp at h; subst h; simp [resTmps]
        | succ k =>
          have := ih k (by simpa using h)
          cases rv <;> simp [resTmps, this]
    have hd' : noDup (resTmps l) = true ∧ (rv = .tmp t → t ∉ resTmps l) := by
      cases rv with
      | tmp x =>
        simp only [resTmps, noDup, Bool.and_eq_true, Bool.not_eq_true', List.contains_eq_mem, decide_eq_false_iff_not] at hd
        exact ⟨hd.2, fun e => by injection e with e; subst e; exact hd.1⟩
      | cell x y => exact ⟨hd, fun e => by cases e⟩
    cases i <;> cases j
    · rfl
    · simp at hi hj
      exact absurd (mem l _ hj) (hd'.2 hi)
    · simp at hi hj
      exact absurd (mem l _ hi) (hd'.2 hj)
    · rename_i i j
      have := resTmps_inj (l := l) (i := i) (j := j) (t := t) hd'.1 (by simpa using hi) (by simpa using hj)
      omega

/-- The variables in memory from n0 on are given up. -/
theorem HRel.take {h : List Ob} (hr : HRel w L m h) (n0 : Nat) (hn : ((h.take n0).all fun ob => ob.cells.all (noLoc 4)) = true) : HRel w L (m.take n0) (h.take n0) := by
  refine ⟨by simp [hr.len], hr.nodup.sublist (List.take_sublist _ _), fun i ob b hi hb => ?_⟩
  have hi2 : i < n0 ∧ h[i]? = some ob := by
    rw [List.getElem?_take] at hi
    split at hi
    · exact ⟨by assumption, hi⟩
    · cases hi
  have hb2 : m[i]? = some b := by rw [List.getElem?_take, if_pos hi2.1] at hb; exact hb
  obtain ⟨h1, cur, h2, h3, h4, h5⟩ := hr.obj i ob b hi2.2 hb2
  refine ⟨h1, cur, h2, h3, h4, fun j v p hv hp => ?_⟩
  have h6 := h5 j v p hv hp
  exact h6.anew (h6.nl 4 (List.all_eq_true.1 (List.all_eq_true.1 hn ob (List.mem_of_getElem? hi)) p (List.mem_of_getElem? hp)))

theorem packR_many {l : List (PVal × Bool)} (h : l.length ≠ 1) : packR l = .tup (l.map (·.1)) := by
  unfold packR
  split
  · simp at h
  · rfl

theorem finish_sound (hT : E.T = TY P) (h : Sim c w L m s a) {fn : Func} {n0 : Nat} (hn0 : c.m.length = n0) {r : CR} (hr : (finish E fn n0 s).run = some r) :
    ∃ v m', (results fn a.tmps).run P w = .ok v w ∧ Sim c w L m' (resSt r) { tmps := #[v], defers := [] } := by
  unfold finish at hr
  obtain ⟨l, hl, hr⟩ := tree_bind_some hr
  split at hr
  · rename_i hdup
    have hr := (run_ret_inv hr).symm
    obtain ⟨vs, hrun, hlen, hlen2, hall⟩ := resAll_sound hT h hl
    let v : Value := if h : vs.toArray.size = 1 then vs.toArray[0] else .tuple vs.toArray
    have hres : (results fn a.tmps).run P w = .ok v w := by
      rw [results_eq, Array.mapM_eq_mapM_toList]
      simp [hrun, v]
    -- what the value is, part by part
    have hrep : Rep w L m v r.v := by
      rw [hr]
      simp only [v]
      by_cases h1 : vs.length = 1
      · obtain ⟨v0, rfl⟩ := List.length_eq_one_iff.1 h1
        obtain ⟨⟨p0, b0⟩, rfl⟩ := List.length_eq_one_iff.1 (hlen ▸ h1)
        simpa [packR] using (hall 0 v0 (p0, b0) rfl rfl).1
      · rw [dif_neg (by simpa using h1)]
        rw [packR_many (by omega)]
        refine .tup _ _ (by simp [hlen]) fun i u p hu hp => ?_
        rw [List.getElem?_map] at hp
        cases hx : l[i]? with
        | none => rw [hx] at hp; cases hp
        | some pb =>
          rw [hx] at hp
          injection hp with hp
          subst hp
          exact (hall i u pb (by simpa using hu) hx).1
    have hparts : ∀ (j : Nat) (u : Value) (sz : Nat) (xs : List PVal), r.o.getD j false = true → compV v j = some u → compP r.v j = some (.sl sz xs) → ∃ t, fn.results.toList[j]? = some (.tmp t) ∧ Holds w m s a.tmps (.slot t 0) u sz := by
      intro j u sz xs ho hc hq
      rw [hr] at ho hq
      simp only [List.getD_eq_getElem?_getD, List.getElem?_map] at ho
      cases hx : l[j]? with
      | none => rw [hx] at ho; simp at ho
      | some pb =>
        rw [hx] at ho
        simp only [Option.map_some, Option.getD_some] at ho
        have hjl : j < l.length := (List.getElem?_eq_some_iff.1 hx).1
        have hjv : j < vs.length := by omega
        obtain ⟨hrj, hbj⟩ := hall j vs[j] pb (List.getElem?_eq_getElem hjv) hx
        obtain ⟨t, ht, hh⟩ := hbj ho
        refine ⟨t, ht, ?_⟩
        by_cases h1 : vs.length = 1
        · obtain ⟨v0, rfl⟩ := List.length_eq_one_iff.1 h1
          obtain ⟨⟨p0, b0⟩, rfl⟩ := List.length_eq_one_iff.1 (hlen ▸ h1)
          have hj0 : j = 0 := by simpa using hjv
          subst hj0
          simp at hx
          subst hx
          exact hh u sz xs (by simpa [v] using hc) hq
        · have e1 : v = .tuple vs.toArray := by simp only [v]; rw [dif_neg (by simpa using h1)]
          simp only at hq
          rw [packR_many (by omega)] at hq
          rw [e1] at hc
          simp only [compP, List.getElem?_map, hx, Option.map_some, Option.some.injEq] at hq
          simp only [compV, List.getElem?_toArray, List.getElem?_eq_getElem hjv, Option.some.injEq] at hc
          subst hc
          rw [hq] at hrj hh
          refine hh _ sz xs ?_ rfl
          revert hrj
          generalize vs[j] = u0
          intro hrj
          cases hrj <;> rfl
    -- the two ways
    have fin : ∀ (m' : List Nat), (∀ b ∈ m', b ∈ m) → (∀ (i b : Nat), m'[i]? = some b → m[i]? = some b) → (∀ (i b : Nat), c.m[i]? = some b → m'[i]? = some b) → (∀ (i : Nat) (ob : Ob), r.h[i]? = some ob → s.h[i]? = some ob) → HRel w L m' r.h → Rep w L m' v r.v → Sim c w L m' (resSt r) { tmps := #[v], defers := [] } := by
      intro m' hsub hsub2 hext hh hrl hrp
      have inv : ∀ {who : Who} {u : Value} {sz : Nat}, Holds w m' (resSt r) #[v] who u sz → (∃ j t, who = .slot 0 j ∧ fn.results.toList[j]? = some (.tmp t) ∧ Holds w m s a.tmps (.slot t 0) u sz) ∨ (∃ i j, who = .cell i j ∧ Holds w m s a.tmps who u sz) := by
        intro who u sz hw
        cases hw with
        | slot t j val pv _ _ xs hv hp ho hc hq =>
          have ht0 : t = 0 := by have := (Array.getElem?_eq_some_iff.1 hv).1; simpa using this
          subst ht0
          simp [resSt] at hv hp ho
          subst hv; subst hp
          obtain ⟨t, h1, h2⟩ := hparts j u sz xs (by simpa [List.getD_eq_getElem?_getD] using ho) hc hq
          exact .inl ⟨j, t, rfl, h1, h2⟩
        | cell i j ob b cur e _ _ xs hi hb hp hv hq ho => exact .inr ⟨i, j, rfl, .cell i j ob b cur e u sz xs (hh i ob hi) (hsub2 i b hb) hp hv hq ho⟩
      refine { defers := rfl, vlen := rfl, olen := rfl, al := fun t hm ht hal => ?_, rep := fun t u p hu hp => ?_, hrel := hrl, own := ⟨fun who u sz hw => ?_, fun p q va vb sa sb k h1 h2 ka kb => ?_⟩, new := h.new, ext := ⟨h.ext.cell, h.ext.lim, hext⟩, os := h.os, tape := h.tape, out := h.out, size := h.size, old := h.old, objs := fun b hb => h.objs b (hsub b hb) }
      · simp only [resSt] at hal ht
        have : t = 0 := by simpa using ht
        subst this
        cases hal
      · have ht0 : t = 0 := by have := (Array.getElem?_eq_some_iff.1 hu).1; simpa using this
        subst ht0
        simp [resSt] at hu hp
        subst hu; subst hp
        exact hrp
      · have ht : TailOK w L m c.may sz u := by
          rcases inv hw with ⟨j, t, _, _, h2⟩ | ⟨i, j, _, h2⟩
          · exact h.own.tail _ u sz h2
          · exact h.own.tail _ u sz h2
        intro A n cc e hlt
        obtain ⟨b, o', cur, t', h1, h2, h3, h4, h5, h6, h7, h8⟩ := ht A n cc e hlt
        exact ⟨b, o', cur, t', h1, h2, h3, h4, h5, fun hb => h6 (hsub b hb), h7, h8⟩
      · rcases inv h1 with ⟨j, t, rfl, e1, h3⟩ | ⟨i, j, rfl, h3⟩ <;> rcases inv h2 with ⟨j', t', rfl, e2, h4⟩ | ⟨i', j', rfl, h4⟩
        · have := h.own.apart _ _ va vb sa sb k h3 h4 ka kb
          injection this with this _
          subst this
          rw [resTmps_inj hdup e1 e2]
        · have := h.own.apart _ _ va vb sa sb k h3 h4 ka kb
          cases this
        · have := h.own.apart _ _ va vb sa sb k h3 h4 ka kb
          cases this
        · exact h.own.apart _ _ va vb sa sb k h3 h4 ka kb
    by_cases hc : ((l.all fun x => noLoc 4 x.1) && ((s.h.take n0).all fun ob => ob.cells.all (noLoc 4))) = true
    · have hrh : r.h = s.h.take n0 := by rw [hr]; simp only; rw [if_pos hc]
      simp only [Bool.and_eq_true] at hc
      have hnl : NL r.v := by
        rw [hr]
        have hx : ∀ (i : Nat) (pb : PVal × Bool), l[i]? = some pb → NL pb.1 := by
          intro i pb hi
          have hiv : i < vs.length := by have := (List.getElem?_eq_some_iff.1 hi).1; omega
          exact (hall i vs[i] pb (List.getElem?_eq_getElem hiv) hi).1.nl 4 (List.all_eq_true.1 hc.1 pb (List.mem_of_getElem? hi))
        simp only
        by_cases h1 : l.length = 1
        · obtain ⟨⟨x, b⟩, rfl⟩ := List.length_eq_one_iff.1 h1
          exact hx 0 (x, b) rfl
        · rw [packR_many h1]
          refine .tup _ fun i p hp => ?_
          rw [List.getElem?_map] at hp
          cases hi : l[i]? with
          | none => rw [hi] at hp; cases hp
          | some pb => rw [hi] at hp; injection hp with hp; subst hp; exact hx i pb hi
      refine ⟨v, m.take n0, hres, fin (m.take n0) (fun b hb => List.mem_of_mem_take hb) (fun i b hb => ?_) (fun i b hb => ?_) (fun i ob hi => ?_) (by rw [hrh]; exact h.hrel.take n0 hc.2) (hrep.anew hnl)⟩
      · rw [List.getElem?_take] at hb
        split at hb
        · exact hb
        · cases hb
      · have hlt : i < n0 := by rw [← hn0]; exact (List.getElem?_eq_some_iff.1 hb).1
        rw [List.getElem?_take, if_pos hlt]
        exact h.ext.obj i b hb
      · rw [hrh, List.getElem?_take] at hi
        split at hi
        · exact hi
        · cases hi
    · have hrh : r.h = s.h := by rw [hr]; simp only; rw [if_neg hc]
      exact ⟨v, m, hres, fin m (fun b hb => hb) (fun i b hb => hb) h.ext.obj (fun i ob hi => by rw [← hrh]; exact hi) (by rw [hrh]; exact h.hrel) hrep⟩
  · cases hr

theorem start_sim {args : List PVal} {h0 : List Ob} {vs : Array Value} {fn : Func} (h : Sim c w L m (argSt args h0) { tmps := vs, defers := [] }) : Sim c w L m (start fn args h0) { tmps := vs ++ Array.replicate (fn.ntmps - vs.size) undef, defers := [] } := by
  have hl : vs.size = args.length := h.vlen
  have hob : ∀ (t : Nat), (List.replicate (max fn.ntmps args.length) ([] : List Bool)).getD t [] = [] := by
    intro t
    rw [List.getD_eq_getElem?_getD, List.getElem?_replicate]
    split <;> rfl
  exact { h with
    defers := rfl
    vlen := by simp [start, hl]
    olen := by simp [start]; omega
    al := fun t hm ht hh => by
      simp only [start] at hh
      rw [List.getD_eq_getElem?_getD, List.getElem?_replicate] at hh
      split at hh <;> cases hh
    rep := fun t v p hv hp => by
      simp only [start] at hp
      rcases Nat.lt_or_ge t args.length with h1 | h1
      · rw [List.getElem?_append_left h1] at hp
        rw [Array.getElem?_append_left (by omega)] at hv
        exact h.rep t v p hv hp
      · rw [List.getElem?_append_right h1, List.getElem?_replicate] at hp
        split at hp
        · injection hp with hp; subst hp; exact .junk _
        · cases hp
    own := by
      have inv : ∀ {who : Who} {u : Value} {sz : Nat}, Holds w m (start fn args h0) (vs ++ Array.replicate (fn.ntmps - vs.size) undef) who u sz → Holds w m (argSt args h0) vs who u sz := by
        intro who u sz hh
        cases hh with
        | slot t j val pv _ _ xs hv hp ho hc hq =>
          simp only [start] at ho
          rw [hob] at ho
          simp at ho
        | cell i j ob b cur e _ _ xs hi hb hp hv hq ho => exact .cell i j ob b cur e u sz xs hi hb hp hv hq ho
      exact ⟨fun who u sz hh => h.own.tail who u sz (inv hh), fun p q va vb sa sb k h1 h2 => h.own.apart p q va vb sa sb k (inv h1) (inv h2)⟩ }

theorem callT_sound (hE : EnvOK P E) (hD : ∀ c, GlobOK E c → DrawOK P E c) {f : FuncId} {fn : Func} (hf : P.funcs[f]? = some fn) (hname : (fn.name == "runtime.NumGoroutine") = false) (ht : ∀ c, GlobOK E c → ∀ b, fn.body = some b → Turns P E c b) {args : List PVal} {h : List Ob} {r : CR} (hr : (callT E fn args h).run = some r) : CallOK P E.glob f args h r := by
  unfold callT at hr
  split at hr
  · cases hr
  · rename_i code hb
    refine ⟨⟨fn, hf, hname, by rw [hb]; rfl⟩, fun w L m tch vs hs hgl => ?_⟩
    have hg : GlobOK E ⟨w, L, m, tch⟩ := hgl
    obtain ⟨⟨e, s1⟩, h1, h2⟩ := tree_bind_some hr
    refine calls_of_wp hf hb (exec_sound hE hg (hD _ hg) 200 code (ht _ hg code hb) _ s1 e _ w L m _ h1 (start_sim hs) fun a' w' L' m' hs' => ?_)
    have hm : (Ctx.mk w L m tch).m.length = h.length := hs.hrel.len
    cases e with
    | nrm =>
      obtain ⟨v, m'', hres, hsim⟩ := finish_sound hE.T hs' hm h2
      exact ⟨hs'.defers, v, hres, v, L', m'', rfl, hsim⟩
    | ret =>
      obtain ⟨v, m'', hres, hsim⟩ := finish_sound hE.T hs' hm h2
      exact ⟨hs'.defers, v, hres, v, L', m'', rfl, hsim⟩
    | ext id => cases h2
    | gto l => cases h2

end Go.Pi
