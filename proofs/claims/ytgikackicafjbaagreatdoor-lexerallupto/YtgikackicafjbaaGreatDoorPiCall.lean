/- A call: what it is handed, what it leaves. -/
import Derived.Test.YtgikackicafjbaaGreatDoorPiAppend
set_option linter.unusedVariables false
set_option linter.unusedSimpArgs false
namespace Go.Pi

variable {P : Program} {c : Ctx} {w : World} {L : Nat → Nat} {m : List Nat} {s : St} {a : Act}

/-- What a call may write: the variables in memory, and the rows that they may let grow. -/
def touch (w : World) (m : List Nat) (s : St) (b : Nat) : Prop := b ∈ m ∨ ∃ (i j : Nat) (v : Value) (sz : Nat), Holds w m s #[] (.cell i j) v sz ∧ tailBlk v = some b

theorem holds_cell {s s' : St} {tmps tmps' : Array Value} {i j : Nat} {v : Value} {sz : Nat} (h : Holds w m s tmps (.cell i j) v sz) (e : s'.h = s.h) : Holds w m s' tmps' (.cell i j) v sz := by
  cases h with
  | cell i j ob b cur e' v sz xs hi hb hp hv hq ho => exact .cell i j ob b cur e' v sz xs (by rw [e]; exact hi) hb hp hv hq ho

theorem touch_may (h : Sim c w L m s a) {b : Nat} (ht : touch w m s b) : c.may b := by
  rcases ht with hb | ⟨i, j, v, sz, hh, hk⟩
  · exact h.objs b hb
  · have ht := h.own.tail _ v sz (holds_cell (tmps' := a.tmps) hh rfl)
    unfold tailBlk at hk
    split at hk
    · rename_i ad n cc
      split at hk
      · rename_i hlt
        injection hk with hk
        obtain ⟨b', o, cur, e, he, _, _, _, _, _, hmay, _⟩ := ht _ n cc rfl hlt
        injection he with he
        subst he
        rw [← hk]; exact hmay
      · cases hk
    · cases hk

/-- The callee begins. -/
theorem Sim.enter (h : Sim c w L m s a) {vs : List Value} {ps : List PVal} (hl : vs.length = ps.length) (hr : ∀ (i : Nat) (v : Value) (p : PVal), vs[i]? = some v → ps[i]? = some p → Rep w L m v p) :
    Sim ⟨w, L, m, touch w m s⟩ w L m (argSt ps s.h) { tmps := vs.toArray, defers := [] } where
  defers := rfl
  vlen := by simp [argSt, hl]
  olen := by simp [argSt]
  al := fun t hm ht hh => by
    simp only [argSt] at hh
    rw [List.getD_eq_getElem?_getD, List.getElem?_map] at hh
    cases hx : ps[t]? <;> rw [hx] at hh <;> cases hh
  rep := fun t v p hv hp => hr t v p (by simpa using hv) hp
  hrel := h.hrel
  own := by
    have key : ∀ (who : Who) (v : Value) (sz : Nat), Holds w m (argSt ps s.h) vs.toArray who v sz → (∃ i j, who = .cell i j) ∧ Holds w m s a.tmps who v sz := by
      intro who v sz hh
      cases who with
      | slot t j =>
        cases hh with
        | slot _ _ val pv _ _ xs hv hp ho hc hq =>
          simp only [argSt] at ho
          rw [List.getD_eq_getElem?_getD, List.getD_eq_getElem?_getD, List.getElem?_map] at ho
          cases hx : ps[t]? <;> rw [hx] at ho <;> simp at ho
      | cell i j => exact ⟨⟨i, j, rfl⟩, holds_cell hh rfl⟩
    refine ⟨fun who v sz hh => ?_, fun p q va vb sa sb k h1 h2 => h.own.apart p q va vb sa sb k (key _ _ _ h1).2 (key _ _ _ h2).2⟩
    obtain ⟨⟨i, j, rfl⟩, h2⟩ := key who v sz hh
    intro A n cc e hlt
    obtain ⟨b, o, cur, t, rfl, hpos, hp, hL, hsz, hm, _, hcm⟩ := h.own.tail _ v sz h2 A n cc e hlt
    refine ⟨b, o, cur, t, rfl, hpos, hp, hL, hsz, hm, .inr (.inr ⟨i, j, v, sz, holds_cell h2 rfl, ?_⟩), hcm⟩
    rw [e]; simp [tailBlk, hlt]
  new := h.new
  ext := Ext.refl _ _ _
  os := rfl
  tape := rfl
  out := rfl
  size := Nat.le_refl _
  old := fun b _ _ => ⟨rfl, rfl⟩
  objs := fun b hb => .inr (.inl hb)

/-- The caller goes on. -/
theorem Sim.back (h : Sim c w L m s a) {w' : World} {L' : Nat → Nat} {m' : List Nat} {r : CR} {v : Value} (k : Sim ⟨w, L, m, touch w m s⟩ w' L' m' (resSt r) { tmps := #[v], defers := [] }) (d : Option Tmp) :
    Sim c w' L' m' ({ s with h := r.h, al := s.al.map noCell }.put d r.v r.o) (a.put d v) := by
  have hmay : ∀ b, (Ctx.mk w L m (touch w m s)).may b → c.may b := by
    rintro b (hb | hb)
    · exact .inl (Nat.le_trans h.size hb)
    · exact touch_may h hb
  -- a row of the caller's own is as it was
  have same : ∀ (t j : Nat) (u : Value) (sz : Nat), Holds w m s a.tmps (.slot t j) u sz → ∀ (b : Nat), tailBlk u = some b → b < w.heap.size ∧ ¬ touch w m s b := by
    intro t j u sz hh b hb
    have ht := h.own.tail _ u sz hh
    refine ⟨tail_lt ht hb, ?_⟩
    rintro (hm | ⟨i, j', v', sz', hh', hk'⟩)
    · unfold tailBlk at hb
      split at hb
      · rename_i ad n cc
        split at hb
        · rename_i hlt
          injection hb with hb
          obtain ⟨b', o, cur, e, he, _, _, _, _, hnm, _⟩ := ht _ n cc rfl hlt
          injection he with he
          subst he
          subst hb
          exact hnm hm
        · cases hb
      · cases hb
    · have := h.own.apart _ _ u v' sz sz' b hh (holds_cell (tmps' := a.tmps) hh' rfl) hb hk'
      cases this
  -- the state ahead of the store of the result
  have hrep : ∀ (t : Nat) (v : Value) (p : PVal), a.tmps[t]? = some v → s.v[t]? = some p → Rep w' L' m' v p := fun t v p hv hp => (h.rep t v p hv hp).ext k.ext
  have tailT : ∀ (u : Value) (sz : Nat), TailOK w' L' m' (Ctx.mk w L m (touch w m s)).may sz u → TailOK w' L' m' c.may sz u := by
    intro u sz hu A n cc e hlt
    obtain ⟨b, o, cur, t, rfl, hpos, hp, hL, hsz, hm, hmy, hcm⟩ := hu A n cc e hlt
    exact ⟨b, o, cur, t, rfl, hpos, hp, hL, hsz, hm, hmay b hmy, hcm⟩
  have tailS : ∀ (t j : Nat) (u : Value) (sz : Nat), Holds w m s a.tmps (.slot t j) u sz → TailOK w' L' m' c.may sz u := by
    intro t j u sz hh A n cc e hlt
    have hb0 := same t j u sz hh
    obtain ⟨b, o, cur, et, rfl, hpos, hp, hL, hsz, hm, hmy, hcm⟩ := h.own.tail _ u sz hh A n cc e hlt
    have hbt := hb0 b (by rw [e]; simp [tailBlk, hlt])
    have ho := k.old b hbt.1 hbt.2
    refine ⟨b, o, cur, et, rfl, hpos, by unfold plainBlk; rw [ho.1]; exact hp, by rw [ho.2]; exact hL, hsz, fun hm' => ?_, hmy, hcm⟩
    rcases k.objs b hm' with h1 | h1
    · simp only at h1; omega
    · exact hbt.2 h1
  -- the parts of the state, the slot not yet written
  have cells : ∀ (i j : Nat) (u : Value) (sz : Nat), Holds w' m' { s with h := r.h, al := s.al.map noCell } a.tmps (.cell i j) u sz → Holds w' m' (resSt r) #[v] (.cell i j) u sz := fun i j u sz hh => holds_cell hh rfl
  have slots : ∀ (t j : Nat) (u : Value) (sz : Nat), Holds w' m' { s with h := r.h, al := s.al.map noCell } a.tmps (.slot t j) u sz → Holds w m s a.tmps (.slot t j) u sz := by
    intro t j u sz hh
    cases hh with
    | slot _ _ val pv _ _ xs hv hp ho hc hq => exact .slot t j val pv u sz xs hv hp ho hc hq
  have apartSC : ∀ (t j : Nat) (u : Value) (sz : Nat), Holds w m s a.tmps (.slot t j) u sz → ∀ (who : Who) (u' : Value) (sz' : Nat), Holds w' m' (resSt r) #[v] who u' sz' → ∀ b, tailBlk u = some b → tailBlk u' ≠ some b := by
    intro t j u sz hh who u' sz' hh' b hb hb'
    obtain ⟨h1, h2⟩ := same t j u sz hh b hb
    have ht := k.own.tail who u' sz' hh'
    unfold tailBlk at hb'
    split at hb'
    · rename_i ad n cc
      split at hb'
      · rename_i hlt
        injection hb' with hb'
        obtain ⟨b', o, cur, e, he, _, _, _, _, _, hmy, _⟩ := ht _ n cc rfl hlt
        injection he with he
        subst he
        subst hb'
        rcases hmy with h3 | h3
        · have h3 : w.heap.size ≤ b' := h3
          have h1 : b' < w.heap.size := h1
          omega
        · exact h2 h3
      · cases hb'
    · cases hb'
  have mid : Sim c w' L' m' { s with h := r.h, al := s.al.map noCell } a := by
    refine { defers := h.defers, vlen := h.vlen, olen := h.olen, al := fun t hm ht hh => ?_, rep := hrep, hrel := k.hrel, own := ⟨fun who u sz hh => ?_, fun p q va vb sa sb b h1 h2 ka kb => ?_⟩, new := k.new, ext := h.ext.trans k.ext, os := k.os.trans h.os, tape := k.tape.trans h.tape, out := k.out.trans h.out, size := Nat.le_trans h.size k.size, old := fun b hb hbt => ?_, objs := fun b hb => hmay b (k.objs b hb) }
    · simp only at hh
      rw [getD_map_none _ _ rfl] at hh
      have h0 : s.al.getD t none = some hm ∧ ∃ x, hm = .slot x := by
        cases hx : s.al.getD t none with
        | none => rw [hx] at hh; cases hh
        | some e => rw [hx] at hh; cases e <;> simp [noCell] at hh; subst hh; exact ⟨rfl, _, rfl⟩
      obtain ⟨h1, x, rfl⟩ := h0
      exact h.al t _ ht h1
    · cases who with
      | slot t j => exact tailS t j u sz (slots t j u sz hh)
      | cell i j => exact tailT u sz (k.own.tail _ u sz (cells i j u sz hh))
    · cases p with
      | slot t j => cases q with
        | slot t' j' => exact h.own.apart _ _ va vb sa sb b (slots _ _ _ _ h1) (slots _ _ _ _ h2) ka kb
        | cell i' j' => exact absurd kb (apartSC t j va sa (slots _ _ _ _ h1) _ vb sb (cells _ _ _ _ h2) b ka)
      | cell i j => cases q with
        | slot t' j' => exact absurd ka (apartSC t' j' vb sb (slots _ _ _ _ h2) _ va sa (cells _ _ _ _ h1) b kb)
        | cell i' j' => exact k.own.apart _ _ va vb sa sb b (cells _ _ _ _ h1) (cells _ _ _ _ h2) ka kb
    · have hbw : b < w.heap.size := Nat.lt_of_lt_of_le hb h.size
      have hnt : ¬ touch w m s b := fun ht => by
        rcases touch_may h ht with h1 | h1
        · omega
        · exact hbt h1
      have h1 := k.old b hbw hnt
      have h2 := h.old b hb hbt
      exact ⟨h1.1.trans h2.1, h1.2.trans h2.2⟩
  -- the result
  have hrv : Rep w' L' m' v r.v := k.rep 0 v r.v rfl rfl
  cases d with
  | none => exact mid
  | some d =>
    have plain := mid.put (some d) hrv
    refine { plain with olen := by simpa [St.put] using h.olen, al := al_put mid.al (fun _ hh => by cases hh), own := ?_ }
    have inv : ∀ (who : Who) (u : Value) (sz : Nat), Holds w' m' ({ s with h := r.h, al := s.al.map noCell }.put (some d) r.v r.o) (a.put (some d) v).tmps who u sz →
        (∃ j, who = .slot d j ∧ Holds w' m' (resSt r) #[v] (.slot 0 j) u sz) ∨ (Holds w' m' { s with h := r.h, al := s.al.map noCell } a.tmps who u sz ∧ ∀ j, who ≠ .slot d j) := by
      intro who u sz hh
      rcases holds_put (s := { s with h := r.h, al := s.al.map noCell }) h.olen hh with ⟨j, rfl, hf, hc, xs, hq⟩ | h2
      · exact .inl ⟨j, rfl, .slot 0 j v r.v u sz xs rfl rfl hf hc hq⟩
      · exact .inr h2
    refine ⟨fun who u sz hh => ?_, fun p q va vb sa sb b h1 h2 ka kb => ?_⟩
    · rcases inv who u sz hh with ⟨j, rfl, h3⟩ | ⟨h3, _⟩
      · exact tailT u sz (k.own.tail _ u sz h3)
      · exact mid.own.tail who u sz h3
    · rcases inv p va sa h1 with ⟨j, rfl, h3⟩ | ⟨h3, h4⟩ <;> rcases inv q vb sb h2 with ⟨j', rfl, h5⟩ | ⟨h5, h6⟩
      · have := k.own.apart _ _ va vb sa sb b h3 h5 ka kb
        injection this with _ e
        rw [e]
      · cases q with
        | slot t' j' => exact absurd ka (apartSC t' j' vb sb (slots _ _ _ _ h5) _ va sa h3 b kb)
        | cell i' j' =>
          have := k.own.apart _ _ va vb sa sb b h3 (cells _ _ _ _ h5) ka kb
          cases this
      · cases p with
        | slot t' j' => exact absurd kb (apartSC t' j' va sa (slots _ _ _ _ h3) _ vb sb h5 b ka)
        | cell i' j' =>
          have := k.own.apart _ _ va vb sa sb b (cells _ _ _ _ h3) h5 ka kb
          cases this
      · exact mid.own.apart p q va vb sa sb b h3 h5 ka kb

/-- A callee that is handed no variable in memory begins. -/
theorem Sim.enter0 (h : Sim c w L m s a) {vs : List Value} {ps : List PVal} (hl : vs.length = ps.length) (hr : ∀ (i : Nat) (v : Value) (p : PVal), vs[i]? = some v → ps[i]? = some p → Rep w L m v p) (hn : ∀ p ∈ ps, noLoc 4 p = true) :
    Sim ⟨w, L, [], fun _ => False⟩ w L [] (argSt ps []) { tmps := vs.toArray, defers := [] } where
  defers := rfl
  vlen := by simp [argSt, hl]
  olen := by simp [argSt]
  al := fun t hm ht hh => by
    simp only [argSt] at hh
    rw [List.getD_eq_getElem?_getD, List.getElem?_map] at hh
    cases hx : ps[t]? <;> rw [hx] at hh <;> cases hh
  rep := fun t v p hv hp => by
    have h1 := hr t v p (by simpa using hv) hp
    exact h1.anew (h1.nl 4 (hn p (List.mem_of_getElem? hp)))
  hrel := ⟨rfl, List.nodup_nil, fun i ob b hi => by simp [argSt] at hi⟩
  own := by
    have key : ∀ (who : Who) (v : Value) (sz : Nat), ¬ Holds w [] (argSt ps []) vs.toArray who v sz := by
      intro who v sz hh
      cases hh with
      | slot t j val pv _ _ xs hv hp ho hc hq =>
        simp only [argSt] at ho
        rw [List.getD_eq_getElem?_getD, List.getD_eq_getElem?_getD, List.getElem?_map] at ho
        cases hx : ps[t]? <;> rw [hx] at ho <;> simp at ho
      | cell i j ob b cur e _ _ xs hi hb => simp at hb
    exact ⟨fun who v sz hh => absurd hh (key who v sz), fun p q va vb sa sb k h1 => absurd h1 (key _ _ _)⟩
  new := h.new
  ext := Ext.refl _ _ _
  os := rfl
  tape := rfl
  out := rfl
  size := Nat.le_refl _
  old := fun b _ _ => ⟨rfl, rfl⟩
  objs := fun b hb => by simp at hb

theorem quiet_back {w' : World} {L' : Nat → Nat} {m' : List Nat} {r : CR} {v : Value} (k : Sim ⟨w, L, [], fun _ => False⟩ w' L' m' (resSt r) { tmps := #[v], defers := [] }) (hr : r.h = []) : m' = [] ∧ Quiet w L w' L' := by
  refine ⟨?_, ⟨k.os, k.tape, k.out, k.size, fun b hb => k.old b hb (fun h => h), k.new⟩⟩
  have := k.hrel.len
  rw [show (resSt r).h = [] from hr] at this
  exact List.eq_nil_of_length_eq_zero this

/-- The caller goes on: nothing of his has been touched. -/
theorem Sim.back0 (h : Sim c w L m s a) {w' : World} {L' : Nat → Nat} {m' : List Nat} {r : CR} {v : Value} (k : Sim ⟨w, L, [], fun _ => False⟩ w' L' m' (resSt r) { tmps := #[v], defers := [] }) (hr : r.h = []) (d : Option Tmp) :
    Sim c w' L' m (s.put d r.v r.o) (a.put d v) := by
  obtain ⟨rfl, q⟩ := quiet_back k hr
  have hq := h.quiet q
  cases d with
  | none => exact hq
  | some d =>
    have hrv : Rep w' L' m v r.v := (k.rep 0 v r.v rfl rfl).ext ⟨fun _ _ _ _ h => h, fun _ => Nat.le_refl _, fun i b hb => by simp at hb⟩
    refine { hq with vlen := by simpa [Act.put, St.put] using hq.vlen, olen := by simpa [St.put] using hq.olen, al := al_put hq.al (fun _ hh => by cases hh), rep := rep_put hq.vlen hq.rep hrv, own := ?_ }
    have inv : ∀ (who : Who) (u : Value) (sz : Nat), Holds w' m (s.put (some d) r.v r.o) (a.put (some d) v).tmps who u sz →
        (∃ j, who = .slot d j ∧ Holds w' [] (resSt r) #[v] (.slot 0 j) u sz) ∨ (Holds w' m s a.tmps who u sz ∧ ∀ j, who ≠ .slot d j) := by
      intro who u sz hh
      rcases holds_put h.olen hh with ⟨j, rfl, hf, hc, xs, hq⟩ | h2
      · exact .inl ⟨j, rfl, .slot 0 j v r.v u sz xs rfl rfl hf hc hq⟩
      · exact .inr h2
    have tailN : ∀ (j : Nat) (u : Value) (sz : Nat), Holds w' [] (resSt r) #[v] (.slot 0 j) u sz → TailOK w' L' m c.may sz u ∧ ∀ b, tailBlk u = some b → w.heap.size ≤ b := by
      intro j u sz hh
      have ht := k.own.tail _ u sz hh
      refine ⟨fun A n cc e hlt => ?_, fun b hb => ?_⟩
      · obtain ⟨b, o, cur, t, rfl, hpos, hp, hL, hsz, hm, hmy, hcm⟩ := ht A n cc e hlt
        have hb : w.heap.size ≤ b := hmy.resolve_right (fun h => h)
        exact ⟨b, o, cur, t, rfl, hpos, hp, hL, hsz, fun hbm => by have := obj_lt h.hrel hbm; omega, .inl (Nat.le_trans h.size hb), hcm⟩
      · unfold tailBlk at hb
        split at hb
        · rename_i ad n cc
          split at hb
          · rename_i hlt
            injection hb with hb
            obtain ⟨b', o, cur, t, e, _, _, _, _, _, hmy, _⟩ := ht _ n cc rfl hlt
            injection e with e
            subst e
            rw [← hb]
            exact hmy.resolve_right (fun h => h)
          · cases hb
        · cases hb
    refine ⟨fun who u sz hh => ?_, fun p q' va vb sa sb b h1 h2 ka kb => ?_⟩
    · rcases inv who u sz hh with ⟨j, rfl, h3⟩ | ⟨h3, _⟩
      · exact (tailN j u sz h3).1
      · exact hq.own.tail who u sz h3
    · rcases inv p va sa h1 with ⟨j, rfl, h3⟩ | ⟨h3, h4⟩ <;> rcases inv q' vb sb h2 with ⟨j', rfl, h5⟩ | ⟨h5, h6⟩
      · have := k.own.apart _ _ va vb sa sb b h3 h5 ka kb
        injection this with _ e
        rw [e]
      · have e1 := (tailN j va sa h3).2 b ka
        have e2 := tail_lt (h.own.tail _ vb sb (holds_quiet q h.hrel h5)) kb
        omega
      · have e1 := (tailN j' vb sb h5).2 b kb
        have e2 := tail_lt (h.own.tail _ va sa (holds_quiet q h.hrel h3)) ka
        omega
      · exact hq.own.apart p q' va vb sa sb b h3 h5 ka kb

/-- What is asked of the calls' answers. -/
def CallOK (P : Program) (glob : Nat → Option PVal) (f : FuncId) (args : List PVal) (h : List Ob) (r : CR) : Prop :=
  (∃ fn, P.funcs[f]? = some fn ∧ (fn.name == "runtime.NumGoroutine") = false ∧ fn.body.isNone = false) ∧
  ∀ (w : World) (L : Nat → Nat) (m : List Nat) (tch : Nat → Prop) (vs : Array Value), Sim ⟨w, L, m, tch⟩ w L m (argSt args h) { tmps := vs, defers := [] } →
    (∀ g x, glob g = some x → Rep w L m (.pointer (some ⟨g, 0, none⟩)) (.ref x)) →
    Calls P f vs w fun e w' => ∃ v L' m', e = .returned v ∧ Sim ⟨w, L, m, tch⟩ w' L' m' (resSt r) { tmps := #[v], defers := [] }

/-- A function without a body: a value, at once. -/
def ExtOK (P : Program) (f : FuncId) (g : List PVal → Option PVal) : Prop :=
  ∀ (w : World) (L : Nat → Nat) (m : List Nat) (vs : List Value) (ps : List PVal) (x : PVal), vs.length = ps.length → (∀ (i : Nat) (v : Value) (p : PVal), vs[i]? = some v → ps[i]? = some p → Rep w L m v p) → g ps = some x →
    ∃ v, (callFunc f vs.toArray).run P w = .ok (.value v) w ∧ Rep w L m v x

structure EnvOK (P : Program) (E : Env) : Prop where
  T : E.T = TY P
  eqt : EqtOK P E.eqt
  ext : ∀ f g, E.ext f = some g → ExtOK P f g
  globNL : ∀ g x, E.glob g = some x → NL (.ref x)
  call : ∀ f args h r, E.ext f = none → (E.call f args h).run = some r → CallOK P E.glob f args h r

end Go.Pi
