/- The world grows; a new variable; a store into one; a slice that grows in place. -/
import Derived.Test.YtgikackicafjbaaGreatDoorPiRel
set_option linter.unusedVariables false
set_option linter.unusedSimpArgs false
namespace Go.Pi

/-- New blocks alone. -/
structure Quiet (w : World) (L : Nat → Nat) (w' : World) (L' : Nat → Nat) : Prop where
  os : w'.os = w.os
  tape : w'.tape = w.tape
  out : w'.output = w.output
  size : w.heap.size ≤ w'.heap.size
  blk : ∀ b, b < w.heap.size → w'.heap[b]? = w.heap[b]? ∧ L' b = L b
  new : ∀ b, w'.heap.size ≤ b → L' b = 0

variable {c : Ctx} {w w' : World} {L L' : Nat → Nat} {m : List Nat} {s : St} {a : Act}

theorem plain_lt {b : Nat} {cur : Array Value} {t : TypeId} (h : plainBlk w b cur t) : b < w.heap.size := (Array.getElem?_eq_some_iff.1 h).1

theorem Quiet.plain (q : Quiet w L w' L') {b : Nat} {cur : Array Value} {t : TypeId} (hb : b < w.heap.size) : plainBlk w' b cur t ↔ plainBlk w b cur t := by
  unfold plainBlk; rw [(q.blk b hb).1]

theorem cell_lt {b o : Nat} {v : Value} (h : w.cell? ⟨b, o, none⟩ = some v) : b < w.heap.size := World.block_lt_of_cell? w ⟨b, o, none⟩ h

theorem Quiet.ext (q : Quiet w L w' L') (hn : ∀ b, w.heap.size ≤ b → L b = 0) (m : List Nat) : Ext w L m w' L' m := by
  refine ⟨fun b o v ho hv => ?_, fun b => ?_, fun _ _ h => h⟩
  · rw [World.cell?_of_block (w := w) (q.blk b (cell_lt hv)).1]; exact hv
  · rcases Nat.lt_or_ge b w.heap.size with h | h
    · rw [(q.blk b h).2]; exact Nat.le_refl _
    · rw [hn b h]; exact Nat.zero_le _

theorem obj_lt (hr : HRel w L m s.h) {b : Nat} (hb : b ∈ m) : b < w.heap.size := by
  obtain ⟨i, hi⟩ := List.mem_iff_getElem?.1 hb
  have hlt : i < s.h.length := by rw [← hr.len]; exact (List.getElem?_eq_some_iff.1 hi).1
  obtain ⟨_, cur, hp, _⟩ := hr.obj i _ b (List.getElem?_eq_getElem hlt) hi
  exact plain_lt hp

theorem TailOK.quiet {may : Nat → Prop} {sz : Nat} {v : Value} (q : Quiet w L w' L') (h : TailOK w L m may sz v) : TailOK w' L' m may sz v := by
  intro A n cc e hlt
  obtain ⟨b, o, cur, t, rfl, h0, hp, hL, hsz, hm, hmay, hcm⟩ := h A n cc e hlt
  exact ⟨b, o, cur, t, rfl, h0, (q.plain (plain_lt hp)).2 hp, by rw [(q.blk b (plain_lt hp)).2]; exact hL, hsz, hm, hmay, hcm⟩

theorem HRel.quiet {h : List Ob} (hr : HRel w L m h) (q : Quiet w L w' L') (hn : ∀ b, w.heap.size ≤ b → L b = 0) : HRel w' L' m h := by
  refine ⟨hr.len, hr.nodup, fun i ob b hi hb => ?_⟩
  obtain ⟨hL, cur, hp, hs, h1, hc⟩ := hr.obj i ob b hi hb
  exact ⟨by rw [(q.blk b (plain_lt hp)).2]; exact hL, cur, (q.plain (plain_lt hp)).2 hp, hs, h1, fun j v p hv hp' => (hc j v p hv hp').ext (q.ext hn m)⟩

theorem Sim.quiet (h : Sim c w L m s a) (q : Quiet w L w' L') : Sim c w' L' m s a where
  defers := h.defers
  vlen := h.vlen
  olen := h.olen
  al := fun t hm ht hh => by
    have h1 := h.al t hm ht hh
    cases hm with
    | slot x => exact h1
    | cell id off =>
      obtain ⟨ob, b, cur, h5, h6, h7, h8⟩ := h1
      exact ⟨ob, b, cur, h5, h6, (q.plain (plain_lt h7)).2 h7, h8⟩
  rep := fun t v p hv hp => (h.rep t v p hv hp).ext (q.ext h.new m)
  hrel := h.hrel.quiet q h.new
  own := h.own.step id none (fun who u sz hh => by
      refine .inl ⟨?_, fun x hx => by cases hx⟩
      cases hh with
      | slot t j val pv u sz xs hv hp ho hc hq => exact .slot t j val pv u sz xs hv hp ho hc hq
      | cell i j ob b cur e v sz xs hi hb hp hv hq ho =>
        exact .cell i j ob b cur e u sz xs hi hb ((q.plain (obj_lt h.hrel (List.mem_of_getElem? hb))).1 hp) hv hq ho)
    (fun a b va vb sa sb _ _ hab _ => hab) (fun v sz hv _ => hv.quiet q) (fun x hx => by cases hx)
  new := q.new
  ext := h.ext.trans (q.ext h.new m)
  os := q.os.trans h.os
  tape := q.tape.trans h.tape
  out := q.out.trans h.out
  size := Nat.le_trans h.size q.size
  old := fun b hb ht => by
    have h1 := q.blk b (Nat.lt_of_lt_of_le hb h.size)
    have h2 := h.old b hb ht
    exact ⟨h1.1.trans h2.1, h1.2.trans h2.2⟩
  objs := h.objs

def setL (L : Nat → Nat) (b n : Nat) : Nat → Nat := fun k => if k = b then n else L k
theorem setL_same (L : Nat → Nat) (b n : Nat) : setL L b n b = n := by simp [setL]
theorem setL_ne (L : Nat → Nat) {b k : Nat} (n : Nat) (h : k ≠ b) : setL L b n k = L k := by simp [setL, h]

theorem Quiet.refl (w : World) (hn : ∀ b, w.heap.size ≤ b → L b = 0) : Quiet w L w L := ⟨rfl, rfl, rfl, Nat.le_refl _, fun _ _ => ⟨rfl, rfl⟩, hn⟩
theorem Quiet.drew (hn : ∀ b, w.heap.size ≤ b → L b = 0) : Quiet w L w.drew L := ⟨rfl, rfl, rfl, Nat.le_refl _, fun _ _ => ⟨rfl, rfl⟩, hn⟩
theorem Quiet.alloc (o : Obj) (n : Nat) (hn : ∀ b, w.heap.size ≤ b → L b = 0) : Quiet w L (w.alloc o) (setL L w.heap.size n) := by
  refine ⟨rfl, rfl, rfl, by simp, fun b hb => ⟨heap_alloc_old w o hb, setL_ne L n (by omega)⟩, fun b hb => ?_⟩
  simp at hb
  rw [setL_ne L n (by omega)]
  exact hn b (by omega)
theorem Quiet.trans {w1 : World} {L1 : Nat → Nat} (h : Quiet w L w1 L1) (k : Quiet w1 L1 w' L') : Quiet w L w' L' :=
  ⟨k.os.trans h.os, k.tape.trans h.tape, k.out.trans h.out, Nat.le_trans h.size k.size, fun b hb =>
    ⟨(k.blk b (Nat.lt_of_lt_of_le hb h.size)).1.trans (h.blk b hb).1, (k.blk b (Nat.lt_of_lt_of_le hb h.size)).2.trans (h.blk b hb).2⟩, k.new⟩

/-- A new variable in memory. -/
theorem Sim.newObj (h : Sim c w L m s a) (t : TypeId) (cs : Array Value) (ps : List PVal) (own : List Bool) (hlen : cs.size = ps.length) (h1 : ∀ (j : Nat) (v : Value), cs[j]? = some v → v.oneCell' = true)
    (hrep : ∀ (j : Nat) (v : Value) (p : PVal), cs[j]? = some v → ps[j]? = some p → Rep w L m v p)
    (hown : ∀ (j : Nat) (v : Value) (sz : Nat) (xs : List PVal), own.getD j false = true → cs[j]? = some v → ps[j]? = some (.sl sz xs) → TailOK w L m c.may sz v ∧
      (∀ (who : Who) (u : Value) (sz' k : Nat), Holds w m s a.tmps who u sz' → tailBlk u = some k → tailBlk v ≠ some k) ∧
      ∀ (j' : Nat) (v' : Value) (sz' : Nat) (xs' : List PVal) (k : Nat), j' ≠ j → own.getD j' false = true → cs[j']? = some v' → ps[j']? = some (.sl sz' xs') → tailBlk v' = some k → tailBlk v ≠ some k) :
    Sim c (w.alloc (.cells cs t)) L (m ++ [w.heap.size]) { s with h := s.h ++ [{ t, cells := ps, own }] } a := by
  have q : Quiet w L (w.alloc (.cells cs t)) L := by
    have := Quiet.alloc (w := w) (L := L) (.cells cs t) 0 h.new
    have e : setL L w.heap.size 0 = L := by
      funext k
      by_cases hk : k = w.heap.size
      · rw [hk, setL_same, h.new _ (Nat.le_refl _)]
      · exact setL_ne L 0 hk
    rwa [e] at this
  have hq := h.quiet q
  have ex : Ext (w.alloc (.cells cs t)) L m (w.alloc (.cells cs t)) L (m ++ [w.heap.size]) := ⟨fun _ _ _ _ h => h, fun _ => Nat.le_refl _, fun i b hb => by rw [List.getElem?_append_left (List.getElem?_eq_some_iff.1 hb).1]; exact hb⟩
  have hnm : w.heap.size ∉ m := fun hm => by have := obj_lt h.hrel hm; omega
  have tk : ∀ (sz : Nat) (v : Value), TailOK w L m c.may sz v → TailOK (w.alloc (.cells cs t)) L (m ++ [w.heap.size]) c.may sz v := by
    intro sz v hv A n cc e hlt
    obtain ⟨b, o, cur, t', rfl, h0, hp, hL, hsz, hm, hmay, hcm⟩ := hv A n cc e hlt
    refine ⟨b, o, cur, t', rfl, h0, (q.plain (plain_lt hp)).2 hp, hL, hsz, ?_, hmay, hcm⟩
    have := plain_lt hp
    simp only [List.mem_append, List.mem_singleton, not_or]
    exact ⟨hm, by omega⟩
  have hold : ∀ (who : Who) (u : Value) (sz : Nat), Holds (w.alloc (.cells cs t)) (m ++ [w.heap.size]) { s with h := s.h ++ [{ t, cells := ps, own }] } a.tmps who u sz →
      Holds w m s a.tmps who u sz ∨ ∃ j xs, who = .cell m.length j ∧ own.getD j false = true ∧ cs[j]? = some u ∧ ps[j]? = some (.sl sz xs) := by
    intro who u sz hh
    cases hh with
    | slot t' j val pv u sz xs hv hp ho hc hq => exact .inl (.slot t' j val pv u sz xs hv hp ho hc hq)
    | cell i j ob b cur e v sz xs hi hb hp hv hq2 ho =>
      rcases Nat.lt_or_ge i m.length with hlt | hge
      · have hi' : s.h[i]? = some ob := by
          have : i < s.h.length := by rw [← h.hrel.len]; exact hlt
          rwa [List.getElem?_append_left this] at hi
        rw [List.getElem?_append_left hlt] at hb
        exact .inl (.cell i j ob b cur e u sz xs hi' hb ((q.plain (obj_lt h.hrel (List.mem_of_getElem? hb))).1 hp) hv hq2 ho)
      · have hie : i = m.length := by
          have := (List.getElem?_eq_some_iff.1 hb).1
          simp at this; omega
        subst hie
        have hb' : b = w.heap.size := by simpa using hb.symm
        subst hb'
        have hob : ob = { t, cells := ps, own } := by
          rw [h.hrel.len, List.getElem?_append_right (Nat.le_refl _)] at hi
          simpa using hi.symm
        subst hob
        have hcur : cur = cs := by
          unfold plainBlk at hp
          rw [heap_alloc_new] at hp
          injection hp with hp; injection hp with hp _ _; exact hp.symm
        subst hcur
        exact .inr ⟨j, xs, rfl, ho, hv, hq2⟩
  refine { defers := h.defers, vlen := h.vlen, olen := h.olen, al := fun t hm ht hh => ?_, rep := fun t v p hv hp => (hq.rep t v p hv hp).ext ex, hrel := ?_, own := ?_, new := q.new, ext := hq.ext.trans ex, os := hq.os, tape := hq.tape, out := hq.out, size := hq.size, old := hq.old, objs := ?_ }
  · have h1 := hq.al t hm ht hh
    cases hm with
    | slot x => exact h1
    | cell id off =>
      obtain ⟨ob, b, cur, h5, h6, h7, h8⟩ := h1
      exact ⟨ob, b, cur, by rw [List.getElem?_append_left (List.getElem?_eq_some_iff.1 h5).1]; exact h5, by rw [List.getElem?_append_left (List.getElem?_eq_some_iff.1 h6).1]; exact h6, h7, h8⟩
  · refine ⟨by simp [h.hrel.len], by rw [List.nodup_append]; exact ⟨h.hrel.nodup, by simp, fun x hx y hy e => hnm (by rw [List.mem_singleton] at hy; rw [← hy, ← e]; exact hx)⟩, fun i ob b hi hb => ?_⟩
    rcases Nat.lt_or_ge i m.length with hlt | hge
    · have hi' : s.h[i]? = some ob := by
        have : i < s.h.length := by rw [← h.hrel.len]; exact hlt
        rwa [List.getElem?_append_left this] at hi
      rw [List.getElem?_append_left hlt] at hb
      obtain ⟨hL, cur, hp, hs, h2, hc⟩ := hq.hrel.obj i ob b hi' hb
      exact ⟨hL, cur, hp, hs, h2, fun j v p hv hp' => (hc j v p hv hp').ext ex⟩
    · have hie : i = m.length := by
        have := (List.getElem?_eq_some_iff.1 hb).1
        simp at this; omega
      subst hie
      have hb' : b = w.heap.size := by simpa using hb.symm
      subst hb'
      have hob : ob = { t, cells := ps, own } := by
        rw [h.hrel.len, List.getElem?_append_right (Nat.le_refl _)] at hi
        simpa using hi.symm
      subst hob
      exact ⟨h.new _ (Nat.le_refl _), cs, heap_alloc_new w _, hlen, h1, fun j v p hv hp => ((hrep j v p hv hp).ext (q.ext h.new m)).ext ex⟩
  · refine ⟨fun who u sz hh => ?_, fun p1 p2 va vb sa sb k h1' h2' ka kb => ?_⟩
    · rcases hold who u sz hh with h2 | ⟨j, xs, rfl, ho, hv, hp⟩
      · exact tk sz u (h.own.tail who u sz h2)
      · exact tk sz u (hown j u sz xs ho hv hp).1
    · rcases hold p1 va sa h1' with h3 | ⟨j, xs, rfl, ho, hv, hp⟩ <;> rcases hold p2 vb sb h2' with h4 | ⟨j', xs', rfl, ho', hv', hp'⟩
      · exact h.own.apart p1 p2 va vb sa sb k h3 h4 ka kb
      · exact absurd kb ((hown j' vb sb xs' ho' hv' hp').2.1 p1 va sa k h3 ka)
      · exact absurd ka ((hown j va sa xs ho hv hp).2.1 p2 vb sb k h4 kb)
      · by_cases e : j = j'
        · rw [e]
        · exact absurd kb ((hown j' vb sb xs' ho' hv' hp').2.2 j va sa xs k e ho hv hp ka)
  · intro b hb
    simp only [List.mem_append, List.mem_singleton] at hb
    rcases hb with hb | rfl
    · exact h.objs b hb
    · exact .inl h.size

end Go.Pi
