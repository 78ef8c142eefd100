/- What a plain value says of a value of the machine in a world; what of it lives on when the world goes on. -/
import Derived.Test.YtgikackicafjbaaGreatDoorPiDefs
import Derived.Laws.AppendOwn
import Derived.Laws.NewBlocks
import Derived.Laws.IdiomRangeMap
set_option linter.unusedVariables false
set_option linter.unusedSimpArgs false
namespace Go.Pi

/-- It leads to no variable in memory. -/
inductive NL : PVal → Prop
  | int (k n) : NL (.int k n)
  | bool (b) : NL (.bool b)
  | str (b) : NL (.str b)
  | nilp : NL .nilp
  | nili : NL .nili
  | nilf : NL .nilf
  | junk : NL .junk
  | agg (ps : List PVal) (h : ∀ (i : Nat) (p : PVal), ps[i]? = some p → NL p) : NL (.agg ps)
  | tup (ps : List PVal) (h : ∀ (i : Nat) (p : PVal), ps[i]? = some p → NL p) : NL (.tup ps)
  | sl (sz : Nat) (xs : List PVal) (h : ∀ (i : Nat) (x : PVal) (j : Nat) (p : PVal), xs[i]? = some x → x.cells[j]? = some p → NL p) : NL (.sl sz xs)
  | ref (x : PVal) (h : ∀ (j : Nat) (p : PVal), x.cells[j]? = some p → NL p) : NL (.ref x)
  | fn (f : Fn) (ps qs : List PVal) (h : ∀ (i : Nat) (p : PVal), ps[i]? = some p → NL p) (h' : ∀ (i : Nat) (p : PVal), qs[i]? = some p → NL p) : NL (.fn f ps qs)
  | ifc (t : TypeId) (p : PVal) (h : NL p) : NL (.ifc t p)

theorem NL.cells {x : PVal} (h : NL x) : ∀ (j : Nat) (p : PVal), x.cells[j]? = some p → NL p := by
  intro j p hp
  by_cases ha : ∃ cs, x = .agg cs
  · obtain ⟨cs, rfl⟩ := ha
    cases h with
    | agg _ h => exact h j p hp
  · have hc : x.cells = [x] := by cases x <;> first | rfl | exact absurd ⟨_, rfl⟩ ha
    rw [hc] at hp
    cases j with
    | zero => simp at hp; subst hp; exact h
    | succ j => simp at hp

/-- 'L b': so many cells of block b are never written again. 'm': the blocks of the variables in memory. -/
inductive Rep (w : World) (L : Nat → Nat) (m : List Nat) : Value → PVal → Prop
  | int (k n) : Rep w L m (.int k n) (.int k n)
  | bool (b) : Rep w L m (.bool b) (.bool b)
  | str (b : ByteArray) : Rep w L m (.string b) (.str b.data.toList)
  | nilp : Rep w L m (.pointer none) .nilp
  | nili : Rep w L m .nilIface .nili
  | nilf : Rep w L m .nilFunc .nilf
  | agg (vs : Array Value) (ps : List PVal) (hl : vs.size = ps.length) (h : ∀ (i : Nat) (v : Value) (p : PVal), vs[i]? = some v → ps[i]? = some p → Rep w L m v p) : Rep w L m (.agg vs) (.agg ps)
  | tup (vs : Array Value) (ps : List PVal) (hl : vs.size = ps.length) (h : ∀ (i : Nat) (v : Value) (p : PVal), vs[i]? = some v → ps[i]? = some p → Rep w L m v p) : Rep w L m (.tuple vs) (.tup ps)
  | sl0 (a c sz) : Rep w L m (.slice a 0 c) (.sl sz [])
  | sl (b o n c sz : Nat) (xs : List PVal) (cv : Nat → Value) (hn : xs.length = n) (hc : n ≤ c) (hm : n ≤ maxLen) (hsz : ∀ (i : Nat) (x : PVal), xs[i]? = some x → x.cells.length = sz)
      (hcell : ∀ q, q < n * sz → w.cell? ⟨b, o + q, none⟩ = some (cv q)) (hone : ∀ q, q < n * sz → (cv q).oneCell' = true) (hL : o + n * sz ≤ L b)
      (h : ∀ (i : Nat) (x : PVal) (j : Nat) (p : PVal), xs[i]? = some x → x.cells[j]? = some p → Rep w L m (cv (i * sz + j)) p)
      (hN : ∀ (i : Nat) (x : PVal) (j : Nat) (p : PVal), xs[i]? = some x → x.cells[j]? = some p → NL p) : Rep w L m (.slice (some ⟨b, o, none⟩) n c) (.sl sz xs)
  | ref (b o : Nat) (x : PVal) (cv : Nat → Value)
      (hcell : ∀ q, q < x.cells.length → w.cell? ⟨b, o + q, none⟩ = some (cv q)) (hone : ∀ q, q < x.cells.length → (cv q).oneCell' = true) (hL : o + x.cells.length ≤ L b)
      (h : ∀ (j : Nat) (p : PVal), x.cells[j]? = some p → Rep w L m (cv j) p) (hN : ∀ (j : Nat) (p : PVal), x.cells[j]? = some p → NL p) : Rep w L m (.pointer (some ⟨b, o, none⟩)) (.ref x)
  | loc (id off b : Nat) (hb : m[id]? = some b) : Rep w L m (.pointer (some ⟨b, off, none⟩)) (.loc id off)
  | fn (f : Fn) (vs us : Array Value) (ps qs : List PVal) (hl : vs.size = ps.length) (hk : us.size = qs.length) (h : ∀ (i : Nat) (v : Value) (p : PVal), vs[i]? = some v → ps[i]? = some p → Rep w L m v p)
      (h' : ∀ (i : Nat) (v : Value) (p : PVal), us[i]? = some v → qs[i]? = some p → Rep w L m v p) : Rep w L m (.func f vs us) (.fn f ps qs)
  | ifc (t : TypeId) (v : Value) (p : PVal) (h : Rep w L m v p) : Rep w L m (.iface t v) (.ifc t p)
  | junk (v) : Rep w L m v .junk

/-- The world has gone on, and what is never written again is as it was. -/
structure Ext (w : World) (L : Nat → Nat) (m : List Nat) (w' : World) (L' : Nat → Nat) (m' : List Nat) : Prop where
  cell : ∀ (b o : Nat) (v : Value), o < L b → w.cell? ⟨b, o, none⟩ = some v → w'.cell? ⟨b, o, none⟩ = some v
  lim : ∀ b, L b ≤ L' b
  obj : ∀ (i b : Nat), m[i]? = some b → m'[i]? = some b

theorem Ext.refl (w : World) (L : Nat → Nat) (m : List Nat) : Ext w L m w L m := ⟨fun _ _ _ _ h => h, fun _ => Nat.le_refl _, fun _ _ h => h⟩
theorem Ext.trans {w w1 w2 : World} {L L1 L2 : Nat → Nat} {m m1 m2 : List Nat} (h : Ext w L m w1 L1 m1) (k : Ext w1 L1 m1 w2 L2 m2) : Ext w L m w2 L2 m2 :=
  ⟨fun b o v ho hv => k.cell b o v (Nat.lt_of_lt_of_le ho (h.lim b)) (h.cell b o v ho hv), fun b => Nat.le_trans (h.lim b) (k.lim b), fun i b hb => k.obj i b (h.obj i b hb)⟩

theorem Rep.ext {w w' : World} {L L' : Nat → Nat} {m m' : List Nat} (e : Ext w L m w' L' m') {v : Value} {p : PVal} (h : Rep w L m v p) : Rep w' L' m' v p := by
  induction h with
  | int k n => exact .int k n
  | bool b => exact .bool b
  | str b => exact .str b
  | nilp => exact .nilp
  | nili => exact .nili
  | nilf => exact .nilf
  | agg vs ps hl h ih => exact .agg vs ps hl ih
  | tup vs ps hl h ih => exact .tup vs ps hl ih
  | sl0 a c sz => exact .sl0 a c sz
  | sl b o n c sz xs cv hn hc hm hsz hcell hone hL h hN ih =>
    exact .sl b o n c sz xs cv hn hc hm hsz (fun q hq => e.cell _ _ _ (by omega) (hcell q hq)) hone (Nat.le_trans hL (e.lim b)) ih hN
  | ref b o x cv hcell hone hL h hN ih =>
    exact .ref b o x cv (fun q hq => e.cell _ _ _ (by omega) (hcell q hq)) hone (Nat.le_trans hL (e.lim b)) ih hN
  | loc id off b hb => exact .loc id off b (e.obj _ _ hb)
  | fn f vs us ps qs hl hk h h' ih ih' => exact .fn f vs us ps qs hl hk ih ih'
  | ifc t v p h ih => exact .ifc t v p ih
  | junk v => exact .junk v

theorem Rep.nl {w : World} {L : Nat → Nat} {m : List Nat} : ∀ (n : Nat) {v : Value} {p : PVal}, Rep w L m v p → noLoc n p = true → NL p
  | 0, _, _, _, h => by simp [noLoc] at h
  | n + 1, v, p, hr, h => by
    cases hr with
    | int k n => exact .int _ _
    | bool b => exact .bool _
    | str b => exact .str _
    | nilp => exact .nilp
    | nili => exact .nili
    | nilf => exact .nilf
    | agg vs ps hl hh =>
      simp only [noLoc] at h
      refine .agg _ fun i q hq => ?_
      have hi : i < vs.size := by rw [hl]; exact (List.getElem?_eq_some_iff.1 hq).1
      exact Rep.nl n (hh i vs[i] q (by simp [hi]) hq) (List.all_eq_true.1 h q (List.mem_of_getElem? hq))
    | tup vs ps hl hh =>
      simp only [noLoc] at h
      refine .tup _ fun i q hq => ?_
      have hi : i < vs.size := by rw [hl]; exact (List.getElem?_eq_some_iff.1 hq).1
      exact Rep.nl n (hh i vs[i] q (by simp [hi]) hq) (List.all_eq_true.1 h q (List.mem_of_getElem? hq))
    | sl0 a c sz => exact .sl _ _ fun i x j p hx => by simp at hx
    | sl b o n c sz xs cv hn hc hm hsz hcell hone hL hh hN => exact .sl _ _ hN
    | ref b o x cv hcell hone hL hh hN => exact .ref _ hN
    | loc id off b hb => simp [noLoc] at h
    | fn f vs us ps qs hl hk hh hh' =>
      simp only [noLoc, Bool.and_eq_true] at h
      refine .fn _ _ _ (fun i q hq => ?_) (fun i q hq => ?_)
      · have hi : i < vs.size := by rw [hl]; exact (List.getElem?_eq_some_iff.1 hq).1
        exact Rep.nl n (hh i vs[i] q (by simp [hi]) hq) (List.all_eq_true.1 h.1 q (List.mem_of_getElem? hq))
      · have hi : i < us.size := by rw [hk]; exact (List.getElem?_eq_some_iff.1 hq).1
        exact Rep.nl n (hh' i us[i] q (by simp [hi]) hq) (List.all_eq_true.1 h.2 q (List.mem_of_getElem? hq))
    | ifc t v p hh => exact .ifc _ _ (Rep.nl n hh (by simpa [noLoc] using h))
    | junk v => exact .junk

/-- What leads to no variable in memory is the same whatever lies there. -/
theorem Rep.anew {w : World} {L : Nat → Nat} {m m' : List Nat} {v : Value} {p : PVal} (hr : Rep w L m v p) : NL p → Rep w L m' v p := by
  induction hr with
  | int k n => intro _; exact .int k n
  | bool b => intro _; exact .bool b
  | str b => intro _; exact .str b
  | nilp => intro _; exact .nilp
  | nili => intro _; exact .nili
  | nilf => intro _; exact .nilf
  | agg vs ps hl h ih => intro hn; cases hn with | agg _ hn => exact .agg vs ps hl fun i v p hv hp => ih i v p hv hp (hn i p hp)
  | tup vs ps hl h ih => intro hn; cases hn with | tup _ hn => exact .tup vs ps hl fun i v p hv hp => ih i v p hv hp (hn i p hp)
  | sl0 a c sz => intro _; exact .sl0 a c sz
  | sl b o n c sz xs cv hn hc hm hsz hcell hone hL h hN ih => intro _; exact .sl b o n c sz xs cv hn hc hm hsz hcell hone hL (fun i x j p hx hp => ih i x j p hx hp (hN i x j p hx hp)) hN
  | ref b o x cv hcell hone hL h hN ih => intro _; exact .ref b o x cv hcell hone hL (fun j p hp => ih j p hp (hN j p hp)) hN
  | loc id off b hb => intro hn; cases hn
  | fn f vs us ps qs hl hk h h' ih ih' => intro hn; cases hn with | fn _ _ _ hn hn' => exact .fn f vs us ps qs hl hk (fun i v p hv hp => ih i v p hv hp (hn i p hp)) (fun i v p hv hp => ih' i v p hv hp (hn' i p hp))
  | ifc t v p h ih => intro hn; cases hn with | ifc _ _ hn => exact .ifc t v p (ih hn)
  | junk v => intro _; exact .junk v

/-- Lists of values, one by one. -/
structure Reps (w : World) (L : Nat → Nat) (m : List Nat) (vs : List Value) (ps : List PVal) : Prop where
  len : vs.length = ps.length
  at_ : ∀ (i : Nat) (v : Value) (p : PVal), vs[i]? = some v → ps[i]? = some p → Rep w L m v p

theorem Reps.ext {w w' : World} {L L' : Nat → Nat} {m m' : List Nat} (e : Ext w L m w' L' m') {vs : List Value} {ps : List PVal} (h : Reps w L m vs ps) : Reps w' L' m' vs ps :=
  ⟨h.len, fun i v p hv hp => (h.at_ i v p hv hp).ext e⟩

/-- Has the block a mark? -/
def plainBlk (w : World) (b : Nat) (cur : Array Value) (t : TypeId) : Prop := w.heap[b]? = some (.cells cur t (0, 0))

/-- The variables in memory. -/
structure HRel (w : World) (L : Nat → Nat) (m : List Nat) (h : List Ob) : Prop where
  len : m.length = h.length
  nodup : m.Nodup
  obj : ∀ (i : Nat) (ob : Ob) (b : Nat), h[i]? = some ob → m[i]? = some b → L b = 0 ∧ ∃ cur, plainBlk w b cur ob.t ∧ cur.size = ob.cells.length ∧ (∀ (j : Nat) (v : Value), cur[j]? = some v → v.oneCell' = true) ∧
    (∀ (j : Nat) (v : Value) (p : PVal), cur[j]? = some v → ob.cells[j]? = some p → Rep w L m v p)

/-- The block behind whose end a slice may grow in place. -/
def tailBlk : Value → Option Nat
  | .slice (some a) n c => if n < c then some a.block else none
  | _ => none

/-- A slice that may grow in place: the cells behind its end are nobody's. -/
def TailOK (w : World) (L : Nat → Nat) (m : List Nat) (may : Nat → Prop) (sz : Nat) (v : Value) : Prop :=
  ∀ (a : Option Addr) (n c : Nat), v = .slice a n c → n < c → ∃ (b o : Nat) (cur : Array Value) (e : TypeId), a = some ⟨b, o, none⟩ ∧ 0 < sz ∧ plainBlk w b cur e ∧ L b ≤ o + n * sz ∧ o + c * sz ≤ cur.size ∧ b ∉ m ∧ may b ∧ c ≤ maxLen

def compV : Value → Nat → Option Value
  | .tuple vs, j => vs[j]?
  | v, 0 => some v
  | _, _ => none
def compP : PVal → Nat → Option PVal
  | .tup ps, j => ps[j]?
  | p, 0 => some p
  | _, _ => none

/-- Who may hold a right. -/
inductive Who where
  | slot (t j : Nat) | cell (i j : Nat)

inductive Holds (w : World) (m : List Nat) (s : St) (tmps : Array Value) : Who → Value → Nat → Prop
  | slot (t j : Nat) (val : Value) (pv : PVal) (v : Value) (sz : Nat) (xs : List PVal) (hv : tmps[t]? = some val) (hp : s.v[t]? = some pv) (ho : (s.o.getD t []).getD j false = true)
      (hc : compV val j = some v) (hq : compP pv j = some (.sl sz xs)) : Holds w m s tmps (.slot t j) v sz
  | cell (i j : Nat) (ob : Ob) (b : Nat) (cur : Array Value) (e : TypeId) (v : Value) (sz : Nat) (xs : List PVal) (hi : s.h[i]? = some ob) (hb : m[i]? = some b) (hp : plainBlk w b cur e)
      (hv : cur[j]? = some v) (hq : ob.cells[j]? = some (.sl sz xs)) (ho : ob.own.getD j false = true) : Holds w m s tmps (.cell i j) v sz

structure OwnOK (w : World) (L : Nat → Nat) (m : List Nat) (may : Nat → Prop) (s : St) (tmps : Array Value) : Prop where
  tail : ∀ (a : Who) (v : Value) (sz : Nat), Holds w m s tmps a v sz → TailOK w L m may sz v
  apart : ∀ (a b : Who) (va vb : Value) (sa sb k : Nat), Holds w m s tmps a va sa → Holds w m s tmps b vb sb → tailBlk va = some k → tailBlk vb = some k → a = b

/-- What the rights become: each is an elder one, or the one new one, behind whose end nobody else may grow. -/
theorem OwnOK.step {w w' : World} {L L' : Nat → Nat} {m m' : List Nat} {may : Nat → Prop} {s s' : St} {tmps tmps' : Array Value} (h : OwnOK w L m may s tmps) (f : Who → Who) (new : Option (Who × Value × Nat))
    (hold : ∀ (a : Who) (v : Value) (sz : Nat), Holds w' m' s' tmps' a v sz → (Holds w m s tmps (f a) v sz ∧ (∀ x, new = some x → a ≠ x.1 ∧ ∀ k, tailBlk v = some k → tailBlk x.2.1 ≠ some k)) ∨ new = some (a, v, sz))
    (inj : ∀ (a b : Who) (va vb : Value) (sa sb : Nat), Holds w' m' s' tmps' a va sa → Holds w' m' s' tmps' b vb sb → f a = f b → (∀ x, new = some x → a ≠ x.1 ∧ b ≠ x.1) → a = b)
    (keep : ∀ (v : Value) (sz : Nat), TailOK w L m may sz v → (∀ x, new = some x → ∀ k, tailBlk v = some k → tailBlk x.2.1 ≠ some k) → TailOK w' L' m' may sz v)
    (hnew : ∀ x, new = some x → TailOK w' L' m' may x.2.2 x.2.1) : OwnOK w' L' m' may s' tmps' := by
  refine ⟨fun a v sz ha => ?_, fun a b va vb sa sb k ha hb ka kb => ?_⟩
  · rcases hold a v sz ha with ⟨h1, h2⟩ | h1
    · exact keep v sz (h.tail _ v sz h1) fun x hx => (h2 x hx).2
    · exact hnew _ h1
  · rcases hold a va sa ha with ⟨h1, h2⟩ | h1 <;> rcases hold b vb sb hb with ⟨h3, h4⟩ | h3
    · exact inj a b va vb sa sb ha hb (h.apart _ _ va vb sa sb k h1 h3 ka kb) fun x hx => ⟨(h2 x hx).1, (h4 x hx).1⟩
    · exact absurd kb ((h2 _ h3).2 k ka)
    · exact absurd ka ((h4 _ h1).2 k kb)
    · rw [h1] at h3; injection h3 with h3; injection h3

/-- What else a slot's value is. -/
def AlOK (w : World) (m : List Nat) (s : St) (tmps : Array Value) (t : Nat) : Home → Prop
  | .slot x => tmps[t]? = tmps[x]? ∧ s.v[t]? = s.v[x]?
  | .cell id off => ∃ (ob : Ob) (b : Nat) (cur : Array Value), s.h[id]? = some ob ∧ m[id]? = some b ∧ plainBlk w b cur ob.t ∧ cur[off]? = tmps[t]? ∧ ob.cells[off]? = s.v[t]?

/-- Where a call began. -/
structure Ctx where
  w : World
  L : Nat → Nat
  m : List Nat
  tch : Nat → Prop

def Ctx.may (c : Ctx) (b : Nat) : Prop := c.w.heap.size ≤ b ∨ c.tch b

structure Sim (c : Ctx) (w : World) (L : Nat → Nat) (m : List Nat) (s : St) (a : Act) : Prop where
  defers : a.defers = []
  vlen : a.tmps.size = s.v.length
  olen : s.o.length = s.v.length
  al : ∀ (t : Nat) (hm : Home), t < s.v.length → s.al.getD t none = some hm → AlOK w m s a.tmps t hm
  rep : ∀ (t : Nat) (v : Value) (p : PVal), a.tmps[t]? = some v → s.v[t]? = some p → Rep w L m v p
  hrel : HRel w L m s.h
  own : OwnOK w L m c.may s a.tmps
  new : ∀ b, w.heap.size ≤ b → L b = 0
  ext : Ext c.w c.L c.m w L m
  os : w.os = c.w.os
  tape : w.tape = c.w.tape
  out : w.output = c.w.output
  size : c.w.heap.size ≤ w.heap.size
  old : ∀ b, b < c.w.heap.size → ¬ c.tch b → w.heap[b]? = c.w.heap[b]? ∧ L b = c.L b
  objs : ∀ b, b ∈ m → c.may b

/-- Package-level tables. -/
def GlobOK (E : Env) (c : Ctx) : Prop := ∀ g x, E.glob g = some x → Rep c.w c.L c.m (.pointer (some ⟨g, 0, none⟩)) (.ref x)

theorem ofConst_rep (w : World) (L : Nat → Nat) (m : List Nat) (v : Value) : Rep w L m v (ofConst v) := by
  unfold ofConst
  split
  · exact .int _ _
  · exact .bool _
  · exact .str _
  · exact .nilp
  · exact .nili
  · exact .nilf
  · exact .sl0 _ _ _
  · exact .junk _

theorem ev_rep {E : Env} {c : Ctx} {w : World} {L : Nat → Nat} {m : List Nat} {s : St} {a : Act} (hg : GlobOK E c) (h : Sim c w L m s a) (x : Operand) : Rep w L m (a.eval x) (ev E s x) := by
  cases x with
  | tmp t =>
    simp only [Act.eval, ev, St.get, Array.getD_eq_getD_getElem?, List.getD_eq_getElem?_getD]
    rcases Nat.lt_or_ge t a.tmps.size with ht | ht
    · have ht' : t < s.v.length := by rw [← h.vlen]; exact ht
      rw [Array.getElem?_eq_getElem ht, List.getElem?_eq_getElem ht']
      exact h.rep t _ _ (Array.getElem?_eq_getElem ht) (List.getElem?_eq_getElem ht')
    · rw [List.getElem?_eq_none (by rw [← h.vlen]; exact ht)]
      exact .junk _
  | const v => exact ofConst_rep w L m v
  | global g =>
    simp only [Act.eval, ev]
    split
    · rename_i x hx; exact (hg g x hx).ext h.ext
    · exact .junk _
  | func f => exact .fn _ _ _ _ _ rfl rfl (by simp) (by simp)

theorem evA_rep {E : Env} {c : Ctx} {w : World} {L : Nat → Nat} {m : List Nat} {s : St} {a : Act} (hg : GlobOK E c) (h : Sim c w L m s a) (ty : TypeId) (x : Operand) : Rep w L m (a.eval x) (evA E ty s x) := by
  unfold evA
  split
  · exact .sl0 _ _ _
  · exact ev_rep hg h _
theorem evA_tmp (E : Env) (ty : TypeId) (s : St) (t : Tmp) : evA E ty s (.tmp t) = s.get t := rfl

end Go.Pi
set_option linter.unusedVariables false
set_option linter.unusedSimpArgs false
namespace Go.Pi

variable {c : Ctx} {w w' : World} {L L' : Nat → Nat} {m : List Nat} {s : St} {a : Act}

theorem getD_set_self {α : Type} (l : List α) (d : Nat) (x y : α) (h : d < l.length) : (l.set d x).getD d y = x := by
  simp [List.getD_eq_getElem?_getD, h]
theorem getD_set_ne {α : Type} (l : List α) (d t : Nat) (x y : α) (h : d ≠ t) : (l.set d x).getD t y = l.getD t y := by
  simp [List.getD_eq_getElem?_getD, List.getElem?_set_ne h]

theorem getD_map_none (l : List (Option Home)) (f : Option Home → Option Home) (hf : f none = none) (t : Nat) : (l.map f).getD t none = f (l.getD t none) := by
  rw [List.getD_eq_getElem?_getD, List.getElem?_map, List.getD_eq_getElem?_getD]
  cases l[t]? <;> simp [hf]

theorem clr_some {d : Nat} {e : Option Home} {hm : Home} (h : clr d e = some hm) : e = some hm ∧ hm ≠ .slot d := by
  unfold clr at h
  split at h
  · rename_i x
    split at h
    · cases h
    · rename_i hx
      injection h with h; subst h
      exact ⟨rfl, fun e => by injection e with e; exact hx e⟩
  · rename_i e' hne
    refine ⟨h, ?_⟩
    rintro rfl
    exact hne d h

/-- What else the slots' values are, after one is written. -/
theorem al_put {tmps : Array Value} {d : Nat} {p : PVal} {o : List Bool} {v : Value} {al : Option Home} (h : ∀ (t : Nat) (hm : Home), t < s.v.length → s.al.getD t none = some hm → AlOK w m s tmps t hm)
    (ha : ∀ hm, al = some hm → hm ≠ .slot d → d < s.v.length → AlOK w m (s.put (some d) p o al) (tmps.setIfInBounds d v) d hm) :
    ∀ (t : Nat) (hm : Home), t < (s.put (some d) p o al).v.length → (s.put (some d) p o al).al.getD t none = some hm → AlOK w m (s.put (some d) p o al) (tmps.setIfInBounds d v) t hm := by
  intro t hm ht hh
  have ht' : t < s.v.length := by simpa [St.put] using ht
  simp only [St.put] at hh
  by_cases e : d = t
  · subst e
    rcases Nat.lt_or_ge d (s.al.map (clr d)).length with h1 | h1
    · rw [getD_set_self _ _ _ _ h1] at hh
      obtain ⟨h2, h3⟩ := clr_some hh
      exact ha hm h2 h3 ht'
    · rw [List.getD_eq_getElem?_getD, List.getElem?_eq_none (by simpa using h1)] at hh; simp at hh
  · rw [getD_set_ne _ _ _ _ _ e, getD_map_none _ _ rfl] at hh
    obtain ⟨h2, h3⟩ := clr_some hh
    have h4 := h t hm ht' h2
    cases hm with
    | slot x =>
      have hx : d ≠ x := fun e => h3 (by rw [e])
      exact ⟨by rw [Array.getElem?_setIfInBounds_ne e, Array.getElem?_setIfInBounds_ne hx]; exact h4.1, by simp only [St.put]; rw [List.getElem?_set_ne e, List.getElem?_set_ne hx]; exact h4.2⟩
    | cell id off =>
      obtain ⟨ob, b, cur, h5, h6, h7, h8, h9⟩ := h4
      exact ⟨ob, b, cur, h5, h6, h7, by rw [Array.getElem?_setIfInBounds_ne e]; exact h8, by simp only [St.put]; rw [List.getElem?_set_ne e]; exact h9⟩

theorem holds_put {tmps : Array Value} {d : Nat} {p : PVal} {fl : List Bool} {al : Option Home} {v : Value} {who : Who} {u : Value} {sz : Nat} (hl : s.o.length = s.v.length)
    (h : Holds w m (s.put (some d) p fl al) (tmps.setIfInBounds d v) who u sz) :
    (∃ j, who = .slot d j ∧ fl.getD j false = true ∧ compV v j = some u ∧ ∃ xs, compP p j = some (.sl sz xs)) ∨ (Holds w m s tmps who u sz ∧ ∀ j, who ≠ .slot d j) := by
  cases h with
  | slot t j val pv u sz xs hv hp ho hc hq =>
    by_cases e : d = t
    · subst e
      simp only [St.put] at hp ho
      have hd : d < s.v.length := by
        have := List.getElem?_eq_some_iff.1 hp
        obtain ⟨h1, _⟩ := this
        simpa using h1
      rw [List.getElem?_set_self hd] at hp
      rw [getD_set_self _ _ _ _ (by omega)] at ho
      have hv' : val = v := by
        have hsz : d < (tmps.setIfInBounds d v).size := (Array.getElem?_eq_some_iff.1 hv).1
        simp at hsz
        rw [Array.getElem?_setIfInBounds_self_of_lt hsz] at hv
        exact (Option.some.inj hv).symm
      injection hp with hp
      subst hp; subst hv'
      exact .inl ⟨j, rfl, ho, hc, xs, hq⟩
    · refine .inr ⟨.slot t j val pv u sz xs ?_ ?_ ?_ hc hq, fun j' hj => ?_⟩
      · rw [Array.getElem?_setIfInBounds_ne e] at hv; exact hv
      · simp only [St.put] at hp; rw [List.getElem?_set_ne e] at hp; exact hp
      · simp only [St.put] at ho; rw [getD_set_ne _ _ _ _ _ e] at ho; exact ho
      · injection hj with h1 _; exact e h1.symm
  | cell i j ob b cur e v sz xs hi hb hp hv hq ho =>
    exact .inr ⟨.cell i j ob b cur e u sz xs hi hb hp hv hq ho, fun j' hj => by cases hj⟩

theorem holds_unown {tmps : Array Value} {t : Nat} {who : Who} {u : Value} {sz : Nat} (h : Holds w m (s.unown t) tmps who u sz) : Holds w m s tmps who u sz ∧ ∀ j, who ≠ .slot t j := by
  cases h with
  | slot t' j val pv v sz xs hv hp ho hc hq =>
    by_cases e : t = t'
    · subst e
      simp only [St.unown] at ho
      rcases Nat.lt_or_ge t s.o.length with h1 | h1
      · rw [getD_set_self _ _ _ _ h1] at ho; simp at ho
      · have h2 : s.o.getD t [] = [] := by rw [List.getD_eq_getElem?_getD, List.getElem?_eq_none h1]; rfl
        rw [List.set_eq_of_length_le h1, h2] at ho; simp at ho
    · simp only [St.unown] at ho
      rw [getD_set_ne _ _ _ _ _ e] at ho
      exact ⟨.slot t' j val pv u sz xs hv hp ho hc hq, fun j' hj => by injection hj with h1 _; exact e h1.symm⟩
  | cell i j ob b cur e v sz xs hi hb hp hv hq ho =>
    exact ⟨.cell i j ob b cur e u sz xs hi hb hp hv hq ho, fun j' hj => by cases hj⟩

/-- The values after a slot is written. -/
theorem rep_put {tmps : Array Value} {vs : List PVal} {d : Nat} {v : Value} {p : PVal} (hl : tmps.size = vs.length) (h : ∀ (t : Nat) (v : Value) (p : PVal), tmps[t]? = some v → vs[t]? = some p → Rep w L m v p)
    (hr : Rep w L m v p) : ∀ (t : Nat) (v' : Value) (p' : PVal), (tmps.setIfInBounds d v)[t]? = some v' → (vs.set d p)[t]? = some p' → Rep w L m v' p' := by
  intro t v' p' hv hp
  by_cases e : d = t
  · subst e
    have h1 : d < vs.length := by
      obtain ⟨h1, _⟩ := List.getElem?_eq_some_iff.1 hp
      simpa using h1
    rw [List.getElem?_set_self h1] at hp
    rw [Array.getElem?_setIfInBounds_self_of_lt (by omega)] at hv
    injection hp with hp; injection hv with hv
    subst hp; subst hv; exact hr
  · rw [Array.getElem?_setIfInBounds_ne e] at hv
    rw [List.getElem?_set_ne e] at hp
    exact h t v' p' hv hp

/-- A slot is written; it holds no right. -/
theorem Sim.put (h : Sim c w L m s a) (d : Option Tmp) {v : Value} {p : PVal} (hr : Rep w L m v p) (al : Option Home := none)
    (hal : ∀ d', d = some d' → ∀ hm, al = some hm → hm ≠ .slot d' → d' < s.v.length → AlOK w m (s.put (some d') p [] al) (a.tmps.setIfInBounds d' v) d' hm := by (intro _ _ _ hh; cases hh)) : Sim c w L m (s.put d p [] al) (a.put d v) := by
  cases d with
  | none => exact h
  | some d =>
    exact { h with
      vlen := by simpa [Act.put, St.put] using h.vlen
      olen := by simpa [St.put] using h.olen
      al := al_put h.al (hal d rfl)
      rep := rep_put h.vlen h.rep hr
      own := h.own.step id none (fun w1 u sz hh => by
          rcases holds_put h.olen hh with ⟨j, _, hf, _⟩ | ⟨h1, _⟩
          · simp at hf
          · exact .inl ⟨h1, fun x hx => by cases hx⟩)
        (fun a b va vb sa sb _ _ hab _ => hab) (fun v sz hv _ => hv) (fun x hx => by cases hx) }

/-- A slot is written; it holds a right that nobody else has. -/
theorem Sim.put_own (h : Sim c w L m s a) (d : Option Tmp) {v : Value} {sz : Nat} {xs : List PVal} (fl : Bool) (hr : Rep w L m v (.sl sz xs)) (ht : fl = true → TailOK w L m c.may sz v)
    (hne : fl = true → ∀ (who : Who) (u : Value) (sz' : Nat), Holds w m s a.tmps who u sz' → (∀ t, d = some t → ∀ j, who ≠ .slot t j) → ∀ k, tailBlk u = some k → tailBlk v ≠ some k) : Sim c w L m (s.put d (.sl sz xs) [fl]) (a.put d v) := by
  cases d with
  | none => exact h
  | some d =>
    have hv0 : ∃ A n cc, v = .slice A n cc := by cases hr <;> exact ⟨_, _, _, rfl⟩
    obtain ⟨A, n, cc, rfl⟩ := hv0
    have h0 : Sim c w L m (s.put (some d) (.sl sz xs)) (a.put (some d) (.slice A n cc)) := h.put (some d) hr
    cases fl with
    | false =>
      refine { h0 with olen := by simpa [St.put] using h.olen, al := al_put h.al (fun _ hh => by cases hh), own := h.own.step id none (fun w1 u sz1 hh => ?_) (fun a b va vb sa sb _ _ hab _ => hab) (fun v sz hv _ => hv) (fun x hx => by cases hx) }
      rcases holds_put h.olen hh with ⟨j, _, hf, _⟩ | ⟨h1, _⟩
      · cases j <;> simp at hf
      · exact .inl ⟨h1, fun x hx => by cases hx⟩
    | true =>
      refine { h0 with olen := by simpa [St.put] using h.olen, al := al_put h.al (fun _ hh => by cases hh), own := h.own.step id (some (.slot d 0, .slice A n cc, sz)) (fun w1 u sz1 hh => ?_) (fun a b va vb sa sb _ _ hab _ => hab) (fun v sz hv _ => hv) (fun x hx => by injection hx with hx; subst hx; exact ht rfl) }
      rcases holds_put h.olen hh with ⟨j, rfl, hf, hc, xs', hq⟩ | ⟨h1, h2⟩
      · cases j with
        | zero =>
          simp [compV] at hc
          simp [compP] at hq
          obtain ⟨rfl, _⟩ := hq
          subst hc
          exact .inr rfl
        | succ j => simp at hf
      · exact .inl ⟨h1, fun x hx => by injection hx with hx; subst hx; exact ⟨h2 0, fun k hk => hne rfl w1 u sz1 h1 (fun t ht j => by injection ht with ht; subst ht; exact h2 j) k hk⟩⟩

/-- A right is given up. -/
theorem Sim.unown (h : Sim c w L m s a) (t : Nat) : Sim c w L m (s.unown t) a :=
  { h with
    olen := by simpa [St.unown] using h.olen
    al := fun t hm ht hh => by cases hm <;> exact h.al t _ ht hh
    own := h.own.step id none (fun w1 u sz hh => .inl ⟨(holds_unown hh).1, fun x hx => by cases hx⟩) (fun a b va vb sa sb _ _ hab _ => hab) (fun v sz hv _ => hv) (fun x hx => by cases hx) }

/-- The right moves with the value. -/
theorem Sim.assign (h : Sim c w L m s a) (d : Option Tmp) (x : Operand) {v : Value} {p : PVal} (hr : Rep w L m v p) (hx : ∀ t, x = .tmp t → v = a.tmps.getD t undef ∧ p = s.get t)
    (hk : x = .const (.slice none 0 0) → v = .slice none 0 0) : Sim c w L m ((takeOwn s x).put d p (evOwn s x)) (a.put d v) := by
  have hplain : Sim c w L m (s.put d p) (a.put d v) := h.put d hr
  cases d with
  | none =>
    cases x with
    | tmp t => exact h.unown t
    | _ => exact h
  | some d =>
    cases x with
    | tmp t =>
      obtain ⟨rfl, rfl⟩ := hx t rfl
      refine { hplain with olen := by simpa [St.put, St.unown, takeOwn] using h.olen, al := al_put (s := s.unown t) (h.unown t).al (fun _ hh => by cases hh), own := h.own.step (fun who => match who with | .slot t' j => if t' = d then .slot t j else .slot t' j | w1 => w1) none (fun w1 u sz hh => ?_) (fun p q va vb sa sb hp hq hpq _ => ?_) (fun v sz hv _ => hv) (fun x hx => by cases hx) }
      · have hol : (s.unown t).o.length = (s.unown t).v.length := by simpa [St.unown] using h.olen
        rcases holds_put (s := s.unown t) hol hh with ⟨j, rfl, hf, hc, xs', hq⟩ | ⟨h1, h2⟩
        · refine .inl ⟨?_, fun x hx => by cases hx⟩
          simp only [if_true]
          simp only [evOwn] at hf
          rcases Nat.lt_or_ge t s.v.length with ht | ht
          · have ht2 : t < a.tmps.size := by rw [h.vlen]; exact ht
            refine .slot t j _ _ u sz xs' (Array.getElem?_eq_getElem ht2) (List.getElem?_eq_getElem ht) hf ?_ ?_
            · simpa [Array.getD_eq_getD_getElem?, Array.getElem?_eq_getElem ht2] using hc
            · simpa [St.get, List.getD_eq_getElem?_getD, List.getElem?_eq_getElem ht] using hq
          · exfalso
            have h2 : s.o.getD t [] = [] := by rw [List.getD_eq_getElem?_getD, List.getElem?_eq_none (by rw [h.olen]; exact ht)]; rfl
            rw [h2] at hf
            simp at hf
        · obtain ⟨h3, h4⟩ := holds_unown h1
          refine .inl ⟨?_, fun x hx => by cases hx⟩
          cases w1 with
          | cell i j => exact h3
          | slot t' j =>
            have : t' ≠ d := fun e => h2 j (by rw [e])
            simp only [this, if_false]
            exact h3
      · have hol : (s.unown t).o.length = (s.unown t).v.length := by simpa [St.unown] using h.olen
        have nt : ∀ (q : Who) (vq : Value) (sq : Nat), Holds w m ((takeOwn s (.tmp t)).put (some d) (s.get t) (evOwn s (.tmp t))) (a.put (some d) (a.tmps.getD t undef)).tmps q vq sq → ∀ j, q = .slot t j → t = d := by
          intro q vq sq hq j e
          rcases holds_put (s := s.unown t) hol hq with ⟨j', e', _⟩ | ⟨h1, h2⟩
          · rw [e] at e'; injection e'
          · exact absurd e ((holds_unown h1).2 j)
        cases p with
        | cell i j => cases q with
          | cell i' j' => simpa using hpq
          | slot t' j' => simp only at hpq; split at hpq <;> cases hpq
        | slot t1 j1 => cases q with
          | cell i' j' => simp only at hpq; split at hpq <;> cases hpq
          | slot t2 j2 =>
            simp only at hpq
            split at hpq <;> split at hpq
            · rename_i e1 e2; injection hpq with _ e3; rw [e1, e2, e3]
            · rename_i e1 e2
              injection hpq with e3 e4
              have := nt _ _ _ hq j2 (by rw [e3])
              exact absurd (e3.symm.trans this) e2
            · rename_i e1 e2
              injection hpq with e3 e4
              have := nt _ _ _ hp j1 (by rw [e3])
              exact absurd (e3.trans this) e1
            · exact hpq
    | const b =>
      by_cases hb : b = .slice none 0 0
      · subst hb
        have hv : v = .slice none 0 0 := hk rfl
        subst hv
        cases hr with
        | sl0 _ _ sz => exact h.put_own (some d) true (.sl0 _ _ _) (fun _ A n cc e hlt => by injection e with _ e2 e3; omega) (fun _ _ _ _ _ _ k hk => by simp [tailBlk])
        | junk =>
          refine { hplain with olen := by simpa [St.put, takeOwn] using h.olen, al := al_put h.al (fun _ hh => by cases hh), own := h.own.step id none (fun w1 u sz1 hh => ?_) (fun a b va vb sa sb _ _ hab _ => hab) (fun v sz hv _ => hv) (fun x hx => by cases hx) }
          rcases holds_put h.olen hh with ⟨j, _, hf, _, xs, hq⟩ | ⟨h1, _⟩
          · cases j <;> simp [compP] at hq
          · exact .inl ⟨h1, fun x hx => by cases hx⟩
      · have : evOwn s (.const b) = [] := by
          unfold evOwn
          split
          · rename_i h1; cases h1
          · rename_i h1; injection h1 with h1; exact absurd h1 hb
          · rfl
        rw [this]
        exact hplain
    | global g => exact hplain
    | func f => exact hplain

end Go.Pi
