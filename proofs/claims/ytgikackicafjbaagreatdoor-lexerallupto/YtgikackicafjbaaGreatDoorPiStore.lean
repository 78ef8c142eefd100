/- A row of cells is written: a variable in memory; a slice that grows in place. -/
import Derived.Test.YtgikackicafjbaaGreatDoorPiWorld
import Derived.WalkLawsBesides
set_option linter.unusedVariables false
set_option linter.unusedSimpArgs false
namespace Go.Pi

variable {c : Ctx} {w w' : World} {L L' : Nat → Nat} {m : List Nat} {s : St} {a : Act}

theorem setRow_size (w : World) (b : Nat) (cs : Array Value) : (w.setRow b cs).heap.size = w.heap.size := by simp [World.setRow]

theorem setRow_cell_same {b : Nat} {cur cur' : Array Value} {e : TypeId} (hp : plainBlk w b cur e) (o : Nat) : (w.setRow b cur').cell? ⟨b, o, none⟩ = cur'[o]? :=
  cell_of_row _ b o cur' e (0, 0) (setRow_heap w b cur cur' e (0, 0) hp)

theorem setRow_plain {b k : Nat} {cs : Array Value} {cs' : Array Value} {e : TypeId} (h : k ≠ b) : plainBlk (w.setRow b cs') k cs e ↔ plainBlk w k cs e := by
  unfold plainBlk; rw [setRow_other w b k cs' h]

/-- What is written lies behind what is never written again. -/
theorem setRow_ext {b : Nat} {cur cur' : Array Value} {e : TypeId} (hp : plainBlk w b cur e) (hc : ∀ o, o < L b → cur'[o]? = cur[o]?) (hl : ∀ k, L k ≤ L' k) : Ext w L m (w.setRow b cur') L' m := by
  refine ⟨fun k o v ho hv => ?_, hl, fun _ _ h => h⟩
  by_cases hk : k = b
  · subst hk
    rw [setRow_cell_same hp, hc o ho, ← cell_of_row w k o cur e (0, 0) hp]; exact hv
  · rw [World.cell?_of_block (w := w) (setRow_other w b k cur' hk)]; exact hv

theorem HRel.row {h : List Ob} (hr : HRel w L m h) {b : Nat} {cur cur' : Array Value} {e : TypeId} (hp : plainBlk w b cur e) (hb : b ∉ m) (hc : ∀ o, o < L b → cur'[o]? = cur[o]?) (hl : ∀ k, L k ≤ L' k) (hl' : ∀ k, k ∈ m → L' k = L k) : HRel (w.setRow b cur') L' m h := by
  refine ⟨hr.len, hr.nodup, fun i ob k hi hk => ?_⟩
  obtain ⟨hL, cu, hp', hs, h1, hcc⟩ := hr.obj i ob k hi hk
  have hkm : k ∈ m := List.mem_of_getElem? hk
  have hkb : k ≠ b := fun e => hb (by rw [← e]; exact hkm)
  exact ⟨by rw [hl' k hkm]; exact hL, cu, (setRow_plain hkb).2 hp', hs, h1, fun j v p hv hp2 => (hcc j v p hv hp2).ext (setRow_ext hp hc hl)⟩

/-- A variable in memory is written. -/
theorem Sim.setObj (h : Sim c w L m s a) {id b : Nat} {ob ob' : Ob} {cur cur' : Array Value} (hid : s.h[id]? = some ob) (hb : m[id]? = some b) (hp : plainBlk w b cur ob.t) (ht : ob'.t = ob.t)
    (hlen : cur'.size = ob'.cells.length) (h1 : ∀ (j : Nat) (v : Value), cur'[j]? = some v → v.oneCell' = true)
    (hrep : ∀ (j : Nat) (v : Value) (p : PVal), cur'[j]? = some v → ob'.cells[j]? = some p → Rep w L m v p) (o' : List (List Bool)) (ho' : o'.length = s.o.length)
    (f : Who → Who) (new : Option (Who × Value × Nat))
    (hold : ∀ (who : Who) (v : Value) (sz : Nat), Holds (w.setRow b cur') m { s with h := s.h.set id ob', o := o', al := s.al.map noCell } a.tmps who v sz →
      (Holds w m s a.tmps (f who) v sz ∧ (∀ x, new = some x → who ≠ x.1 ∧ ∀ k, tailBlk v = some k → tailBlk x.2.1 ≠ some k)) ∨ new = some (who, v, sz))
    (inj : ∀ (p q : Who) (va vb : Value) (sa sb : Nat), Holds (w.setRow b cur') m { s with h := s.h.set id ob', o := o', al := s.al.map noCell } a.tmps p va sa → Holds (w.setRow b cur') m { s with h := s.h.set id ob', o := o', al := s.al.map noCell } a.tmps q vb sb → f p = f q → (∀ x, new = some x → p ≠ x.1 ∧ q ≠ x.1) → p = q)
    (hnew : ∀ x, new = some x → TailOK w L m c.may x.2.2 x.2.1) :
    Sim c (w.setRow b cur') L m { s with h := s.h.set id ob', o := o', al := s.al.map noCell } a := by
  have hbm : b ∈ m := List.mem_of_getElem? hb
  have hL0 : L b = 0 := (h.hrel.obj id ob b hid hb).1
  have ex : Ext w L m (w.setRow b cur') L m := setRow_ext hp (fun o ho => by omega) (fun _ => Nat.le_refl _)
  have tk : ∀ (v : Value) (sz : Nat), TailOK w L m c.may sz v → TailOK (w.setRow b cur') L m c.may sz v := by
    intro v sz hv A n cc e hlt
    obtain ⟨k, o, cu, t', rfl, h0, hp', hLk, hsz, hm, hmay, hcm⟩ := hv A n cc e hlt
    exact ⟨k, o, cu, t', rfl, h0, (setRow_plain (fun e => hm (by rw [e]; exact hbm))).2 hp', hLk, hsz, hm, hmay, hcm⟩
  refine { defers := h.defers, vlen := h.vlen, olen := by simpa [ho'] using h.olen, al := fun t hm ht hh => ?_, rep := fun t v p hv hp => (h.rep t v p hv hp).ext ex, hrel := ?_, own := h.own.step f new hold inj (fun v sz hv _ => tk v sz hv) (fun x hx => tk _ _ (hnew x hx)), new := fun k hk => h.new k (by rwa [setRow_size] at hk), ext := h.ext.trans ex, os := h.os, tape := h.tape, out := h.out, size := by rw [setRow_size]; exact h.size, old := ?_, objs := h.objs }
  · simp only at hh
    rw [getD_map_none _ _ rfl] at hh
    have h0 : s.al.getD t none = some hm ∧ ∃ x, hm = .slot x := by
      cases hx : s.al.getD t none with
      | none => rw [hx] at hh; cases hh
      | some e => rw [hx] at hh; cases e <;> simp [noCell] at hh; subst hh; exact ⟨rfl, _, rfl⟩
    obtain ⟨h1, x, rfl⟩ := h0
    exact h.al t _ ht h1
  · refine ⟨by simpa using h.hrel.len, h.hrel.nodup, fun i ob2 k hi hk => ?_⟩
    by_cases hie : i = id
    · subst hie
      rw [hb] at hk; injection hk with hk; subst hk
      have hlt : i < s.h.length := (List.getElem?_eq_some_iff.1 hid).1
      simp only [List.getElem?_set_self hlt] at hi
      injection hi with hi; subst hi
      refine ⟨hL0, cur', ?_, hlen, h1, fun j v p hv hp' => (hrep j v p hv hp').ext ex⟩
      rw [ht]; exact setRow_heap w b cur cur' ob.t (0, 0) hp
    · simp only [List.getElem?_set_ne (Ne.symm hie)] at hi
      obtain ⟨hL, cu, hp', hs, h2, hcc⟩ := h.hrel.obj i ob2 k hi hk
      have hkb : k ≠ b := by
        intro e
        have h3 : i < m.length := (List.getElem?_eq_some_iff.1 hk).1
        have h4 : id < m.length := (List.getElem?_eq_some_iff.1 hb).1
        exact hie ((List.getElem?_inj h3 h.hrel.nodup).1 (by rw [hk, hb, e]))
      exact ⟨hL, cu, (setRow_plain hkb).2 hp', hs, h2, fun j v p hv hp2 => (hcc j v p hv hp2).ext ex⟩
  · intro k hk hkt
    have hkb : k ≠ b := by
      rintro rfl
      rcases h.objs k hbm with h2 | h2
      · omega
      · exact hkt h2
    rw [setRow_other w b k cur' hkb]
    exact h.old k hk hkt

/-- A slice grows in place; its right is gone from where it was. -/
theorem Sim.grow (h : Sim c w L m s a) {b n : Nat} {cur cur' : Array Value} {e : TypeId} (hp : plainBlk w b cur e) (hbm : b ∉ m) (hmay : c.may b) (hc : ∀ o, o < L b → cur'[o]? = cur[o]?) (hn : L b ≤ n)
    (hsz : cur'.size = cur.size) (hfree : ∀ (who : Who) (v : Value) (sz : Nat), Holds w m s a.tmps who v sz → tailBlk v ≠ some b) :
    Sim c (w.setRow b cur') (setL L b n) m s a := by
  have hl : ∀ k, L k ≤ setL L b n k := by
    intro k
    by_cases hk : k = b
    · subst hk; rw [setL_same]; exact hn
    · rw [setL_ne L n hk]; exact Nat.le_refl _
  have ex : Ext w L m (w.setRow b cur') (setL L b n) m := setRow_ext hp hc hl
  refine { defers := h.defers, vlen := h.vlen, olen := h.olen, al := fun t hm ht hh => ?_, rep := fun t v p hv hp => (h.rep t v p hv hp).ext ex, hrel := h.hrel.row hp hbm hc hl (fun k hk => setL_ne L n (fun e => hbm (by rw [← e]; exact hk))), own := ?_, new := fun k hk => ?_, ext := h.ext.trans ex, os := h.os, tape := h.tape, out := h.out, size := by rw [setRow_size]; exact h.size, old := ?_, objs := h.objs }
  · have h1 := h.al t hm ht hh
    cases hm with
    | slot x => exact h1
    | cell id off =>
      obtain ⟨ob, k, cu, h5, h6, h7, h8⟩ := h1
      exact ⟨ob, k, cu, h5, h6, (setRow_plain (fun e => hbm (by rw [← e]; exact List.mem_of_getElem? h6))).2 h7, h8⟩
  · have hold : ∀ (who : Who) (v : Value) (sz : Nat), Holds (w.setRow b cur') m s a.tmps who v sz → Holds w m s a.tmps who v sz := by
      intro who v sz hh
      cases hh with
      | slot t j val pv u sz xs hv hp2 ho hc2 hq => exact .slot t j val pv v sz xs hv hp2 ho hc2 hq
      | cell i j ob k cu e2 v2 sz xs hi hk hp2 hv hq ho =>
        have hkb : k ≠ b := fun e => hbm (by rw [← e]; exact List.mem_of_getElem? hk)
        exact .cell i j ob k cu e2 v sz xs hi hk ((setRow_plain hkb).1 hp2) hv hq ho
    refine ⟨fun who v sz hh => ?_, fun p q va vb sa sb k h1 h2 => h.own.apart p q va vb sa sb k (hold _ _ _ h1) (hold _ _ _ h2)⟩
    intro A n' cc e' hlt
    obtain ⟨k, o, cu, t', rfl, h0, hp', hLk, hsz', hm, hmay', hcm⟩ := h.own.tail who v sz (hold _ _ _ hh) A n' cc e' hlt
    have hkb : k ≠ b := by
      rintro rfl
      exact hfree who v sz (hold _ _ _ hh) (by rw [e']; simp [tailBlk, hlt])
    exact ⟨k, o, cu, t', rfl, h0, (setRow_plain hkb).2 hp', by rw [setL_ne L n hkb]; exact hLk, hsz', hm, hmay', hcm⟩
  · rw [setRow_size] at hk
    have := plain_lt hp
    rw [setL_ne L n (by omega)]
    exact h.new k hk
  · intro k hk hkt
    have hkb : k ≠ b := by
      rintro rfl
      rcases hmay with h2 | h2
      · omega
      · exact hkt h2
    rw [setRow_other w b k cur' hkb, setL_ne L n hkb]
    exact h.old k hk hkt

end Go.Pi
set_option linter.unusedVariables false
set_option linter.unusedSimpArgs false
namespace Go.Pi

variable {P : Program} {w : World} {L : Nat → Nat} {m : List Nat}

theorem TY_inv {t : TypeId} {i : TI} (h : TY P t = some i) : ∃ ti d z, P.info? t = some ti ∧ P.underlying t = some d ∧ i.d = tdOf d ∧ i.size = ti.size ∧ i.bytes = ti.bytes ∧ ti.zero = some z ∧
    i.zero = z.cells.toList.map ofConst ∧ z.cells.size = ti.size ∧ ∀ v ∈ z.cells.toList, v.oneCell' = true := by
  unfold TY at h
  split at h
  · rename_i ti d h1 h2
    split at h
    · rename_i z hz
      split at h
      · rename_i hc
        injection h with h; subst h
        exact ⟨ti, d, z, h1, h2, rfl, rfl, rfl, hz, rfl, hc.1, fun v hv => List.all_eq_true.1 hc.2 v hv⟩
      · cases h
    · cases h
  · cases h

theorem run_ok_bind {α β : Type} {x : Sem α} {f : α → Sem β} {w w' : World} {v : α} (h : x.run P w = .ok v w') : (x >>= f).run P w = (f v).run P w' := by
  rw [Sem.run_bind, h]; rfl

theorem tree_ite_fail {α : Type} {c : Bool} {t : Tree α} {x : α} (h : (Tree.ite c .fail t).run = some x) : c = false ∧ t.run = some x := by
  cases c with
  | false => exact ⟨rfl, h⟩
  | true => cases h

theorem tree_need {α : Type} {c : Bool} {t : Tree α} {x : α} (h : (Tree.need c t).run = some x) : c = true ∧ t.run = some x := by
  cases c with
  | false => cases h
  | true => exact ⟨rfl, h⟩

theorem tree_bind {α β : Type} (t : Tree α) (f : α → Tree β) : (t.bind f).run = t.run.bind fun a => (f a).run := by
  induction t with
  | ret a => rfl
  | fail => rfl
  | ite c t e iht ihe => cases c <;> simp [Tree.bind, Tree.run, iht, ihe]

theorem tree_bind_some {α β : Type} {t : Tree α} {f : α → Tree β} {b : β} (h : (t.bind f).run = some b) : ∃ a, t.run = some a ∧ (f a).run = some b := by
  rw [tree_bind] at h
  cases ht : t.run with
  | none => rw [ht] at h; cases h
  | some a => rw [ht] at h; exact ⟨a, rfl, h⟩

theorem run_ret_inv {α : Type} {a b : α} (h : (Tree.ret a).run = some b) : a = b := Option.some.inj h

theorem ibin_sound {op : BinOp} {k : IntKind} {x y : Int} {p : PVal} (h : (ibin op k x y).run = some p) (hs : op ≠ .shl ∧ op ≠ .shr) (t : TypeId) :
    ∃ v, (binOp op t (.int k x) (.int k y)).run P w = .ok v w ∧ Rep w L m v p := by
  cases op <;> simp only [ibin] at h
  case add => cases run_ret_inv h; exact ⟨_, by simp [binOp, Op.intArith], .int _ _⟩
  case sub => cases run_ret_inv h; exact ⟨_, by simp [binOp, Op.intArith], .int _ _⟩
  case mul => cases run_ret_inv h; exact ⟨_, by simp [binOp, Op.intArith], .int _ _⟩
  case quo =>
    obtain ⟨h0, h⟩ := tree_ite_fail h
    cases run_ret_inv h
    have : ¬ y = 0 := by simpa using h0
    exact ⟨_, by simp [binOp, Op.intDiv, this], .int _ _⟩
  case rem =>
    obtain ⟨h0, h⟩ := tree_ite_fail h
    cases run_ret_inv h
    have : ¬ y = 0 := by simpa using h0
    exact ⟨_, by simp [binOp, Op.intDiv, this], .int _ _⟩
  case and => cases run_ret_inv h; exact ⟨.int k (bitsI .and k x y), by simp [binOp, Op.intBits, bitsI], .int _ _⟩
  case or => cases run_ret_inv h; exact ⟨.int k (bitsI .or k x y), by simp [binOp, Op.intBits, bitsI], .int _ _⟩
  case xor => cases run_ret_inv h; exact ⟨.int k (bitsI .xor k x y), by simp [binOp, Op.intBits, bitsI], .int _ _⟩
  case andNot => cases run_ret_inv h; exact ⟨.int k (bitsI .andNot k x y), by simp [binOp, Op.intBits, bitsI], .int _ _⟩
  case eql => cases run_ret_inv h; exact ⟨.bool (x == y), by simp [binOp, Op.intCmp], .bool _⟩
  case neq => cases run_ret_inv h; exact ⟨.bool (x != y), by simp [binOp, Op.intCmp], .bool _⟩
  case lss => cases run_ret_inv h; exact ⟨_, by simp [binOp, Op.intCmp], .bool _⟩
  case leq => cases run_ret_inv h; exact ⟨_, by simp [binOp, Op.intCmp], .bool _⟩
  case gtr => cases run_ret_inv h; exact ⟨.bool (decide (x > y)), by simp [binOp, Op.intCmp], .bool _⟩
  case geq => cases run_ret_inv h; exact ⟨.bool (decide (x ≥ y)), by simp [binOp, Op.intCmp], .bool _⟩
  all_goals cases h

theorem str_rep_append (a b : ByteArray) : Rep w L m (.string (a ++ b)) (.str (a.data.toList ++ b.data.toList)) := by
  have : (a ++ b).data.toList = a.data.toList ++ b.data.toList := by simp
  rw [← this]
  exact .str _

theorem sbin_sound {op : BinOp} {a b : ByteArray} {p : PVal} (h : (sbin op a.data.toList b.data.toList).run = some p) (t : TypeId) :
    ∃ v, (binOp op t (.string a) (.string b)).run P w = .ok v w ∧ Rep w L m v p := by
  have ea := ByteArray.toList_eq a
  have eb := ByteArray.toList_eq b
  cases op <;> simp only [sbin] at h
  case add =>
    obtain ⟨h0, h⟩ := tree_need h
    cases run_ret_inv h
    have h1 : a.size + b.size ≤ 9223372036854775807 := by simpa using h0
    refine ⟨_, ?_, str_rep_append a b⟩
    have h2 : ¬ (((a.size + b.size : Nat) : Int) > IntKind.i64.max) := by
      have : IntKind.i64.max = 9223372036854775807 := by decide
      rw [this]; omega
    simp only [binOp, Op.stringOp, if_neg h2]
    rfl
  case eql => cases run_ret_inv h; exact ⟨_, by simp only [binOp, Op.stringOp, ea, eb]; rfl, .bool _⟩
  case neq => cases run_ret_inv h; exact ⟨_, by simp only [binOp, Op.stringOp, ea, eb]; rfl, .bool _⟩
  case lss => cases run_ret_inv h; exact ⟨_, by simp only [binOp, Op.stringOp, ea, eb]; rfl, .bool _⟩
  case leq => cases run_ret_inv h; exact ⟨_, by simp only [binOp, Op.stringOp, ea, eb]; rfl, .bool _⟩
  case gtr => cases run_ret_inv h; exact ⟨_, by simp only [binOp, Op.stringOp, ea, eb]; rfl, .bool _⟩
  case geq => cases run_ret_inv h; exact ⟨_, by simp only [binOp, Op.stringOp, ea, eb]; rfl, .bool _⟩
  all_goals cases h

theorem run_equal_bool_in (d : Nat) (t : TypeId) (ht : P.underlying t = some .bool) (a b : Bool) : (Op.equalIn (d + 1) t (.bool a) (.bool b)).run P w = .ok (a == b) w := by
  simp only [Op.equalIn, Sem.run_bind, run_underlying ht, Result.andThen_ok]
  rfl
theorem run_equal_bool' (t : TypeId) (d : TypeDesc) (ht : P.underlying t = some d) (hd : tdOf d = .bool) (a b : Bool) : (Op.equal t (.bool a) (.bool b)).run P w = .ok (a == b) w := by
  cases d <;> simp [tdOf] at hd
  exact run_equal_bool_in 9999 t ht a b
theorem equal_nili_in (d : Nat) (t : TypeId) {ms : Array (String × TypeId)} (ht : P.underlying t = some (.interface ms)) : (Op.equalIn (d + 1) t .nilIface .nilIface).run P w = .ok true w := by
  simp only [Op.equalIn, Sem.run_bind, run_underlying ht, Result.andThen_ok]
  rfl
theorem equal_nili (t : TypeId) {ms : Array (String × TypeId)} (ht : P.underlying t = some (.interface ms)) : (Op.equal t .nilIface .nilIface).run P w = .ok true w := equal_nili_in 9999 t ht
theorem equal_ifc_nili_in (d : Nat) (t u : TypeId) (x : Value) {ms : Array (String × TypeId)} (ht : P.underlying t = some (.interface ms)) : (Op.equalIn (d + 1) t (.iface u x) .nilIface).run P w = .ok false w := by
  simp only [Op.equalIn, Sem.run_bind, run_underlying ht, Result.andThen_ok]
  rfl
theorem equal_ifc_nili (t u : TypeId) (x : Value) {ms : Array (String × TypeId)} (ht : P.underlying t = some (.interface ms)) : (Op.equal t (.iface u x) .nilIface).run P w = .ok false w := equal_ifc_nili_in 9999 t u x ht
theorem equal_nili_ifc_in (d : Nat) (t u : TypeId) (x : Value) {ms : Array (String × TypeId)} (ht : P.underlying t = some (.interface ms)) : (Op.equalIn (d + 1) t .nilIface (.iface u x)).run P w = .ok false w := by
  simp only [Op.equalIn, Sem.run_bind, run_underlying ht, Result.andThen_ok]
  rfl
theorem equal_nili_ifc (t u : TypeId) (x : Value) {ms : Array (String × TypeId)} (ht : P.underlying t = some (.interface ms)) : (Op.equal t .nilIface (.iface u x)).run P w = .ok false w := equal_nili_ifc_in 9999 t u x ht
theorem equal_nilp_in (d : Nat) (t e : TypeId) (ht : P.underlying t = some (.pointer e)) : (Op.equalIn (d + 1) t (.pointer none) (.pointer none)).run P w = .ok true w := by
  simp only [Op.equalIn, Sem.run_bind, run_underlying ht, Result.andThen_ok]
  rfl
theorem equal_nilp (t e : TypeId) (ht : P.underlying t = some (.pointer e)) : (Op.equal t (.pointer none) (.pointer none)).run P w = .ok true w := equal_nilp_in 9999 t e ht
theorem equal_nilp_loc_in (d : Nat) (t e : TypeId) (a : Addr) (ht : P.underlying t = some (.pointer e)) : (Op.equalIn (d + 1) t (.pointer none) (.pointer (some a))).run P w = .ok false w := by
  simp only [Op.equalIn, Sem.run_bind, run_underlying ht, Result.andThen_ok]
  rfl
theorem equal_nilp_loc (t e : TypeId) (a : Addr) (ht : P.underlying t = some (.pointer e)) : (Op.equal t (.pointer none) (.pointer (some a))).run P w = .ok false w := equal_nilp_loc_in 9999 t e a ht
theorem equal_loc_nilp_in (d : Nat) (t e : TypeId) (a : Addr) (ht : P.underlying t = some (.pointer e)) : (Op.equalIn (d + 1) t (.pointer (some a)) (.pointer none)).run P w = .ok false w := by
  simp only [Op.equalIn, Sem.run_bind, run_underlying ht, Result.andThen_ok]
  rfl
theorem equal_loc_nilp (t e : TypeId) (a : Addr) (ht : P.underlying t = some (.pointer e)) : (Op.equal t (.pointer (some a)) (.pointer none)).run P w = .ok false w := equal_loc_nilp_in 9999 t e a ht

theorem isIface_inv {T : TypeId → Option TI} (hT : T = TY P) {t : TypeId} (h : isIface T t = true) : ∃ ms, P.underlying t = some (.interface ms) := by
  subst hT
  unfold isIface at h
  split at h
  · rename_i s b z h1
    obtain ⟨ti, d, zz, _, hu, hd, _⟩ := TY_inv h1
    cases d <;> simp [tdOf] at hd
    exact ⟨_, hu⟩
  · cases h

theorem isPtr_inv {T : TypeId → Option TI} (hT : T = TY P) {t : TypeId} (h : isPtr T t = true) : ∃ e, P.underlying t = some (.pointer e) := by
  subst hT
  unfold isPtr at h
  split at h
  · rename_i e s b z h1
    obtain ⟨ti, d, zz, _, hu, hd, _⟩ := TY_inv h1
    cases d <;> simp [tdOf] at hd
    exact ⟨_, hu⟩
  · cases h

theorem isBool_inv {T : TypeId → Option TI} (hT : T = TY P) {t : TypeId} (h : isBool T t = true) : P.underlying t = some .bool := by
  subst hT
  unfold isBool at h
  split at h
  · rename_i s b z h1
    obtain ⟨ti, d, zz, _, hu, hd, _⟩ := TY_inv h1
    cases d <;> simp [tdOf] at hd
    exact hu
  · cases h

/-- '==' over a whole type, cell by cell. -/
def EqtOK (P : Program) (eqt : TypeId → Bool) : Prop := ∀ (t : TypeId) (w : World) (L : Nat → Nat) (m : List Nat) (xs ys : Array Value) (ps qs : List PVal) (r : Bool) (i : TI), eqt t = true → TY P t = some i → fitL i.zero ps = true → fitL i.zero qs = true → Rep w L m (.agg xs) (.agg ps) → Rep w L m (.agg ys) (.agg qs) →
  eqCells ps qs = some r → (Op.equal t (.agg xs) (.agg ys)).run P w = .ok r w ∧ P.eqGuardType P.depth t = false

theorem eqOut_sound {op : BinOp} {r : Bool} {p : PVal} (h : (eqOut op r).run = some p) {t : TypeId} {x y : Value} (hx : ∀ k n, x ≠ .int k n) (hb : (Op.equal t x y).run P w = .ok r w)
    (hsh : ∀ o, binOp o t x y = match o with | .eql => do pure (.bool (← Op.equal t x y)) | .neq => do pure (.bool (!(← Op.equal t x y))) | _ => binOp o t x y) :
    ∃ v, (binOp op t x y).run P w = .ok v w ∧ Rep w L m v p := by
  cases op <;> simp only [eqOut] at h
  case eql => cases run_ret_inv h; exact ⟨_, by rw [hsh]; simp [hb], .bool _⟩
  case neq => cases run_ret_inv h; exact ⟨_, by rw [hsh]; simp [hb], .bool _⟩
  all_goals cases h

theorem guard_run {op : BinOp} {t : TypeId} {x y : Operand} {a b : Value} (h1 : a ≠ .nilIface ∨ b ≠ .nilIface ∨ (isC x || isC y) = true) (h2 : (∀ u v, a = .agg u → b = .agg v → P.eqGuardType P.depth t = false)) :
    (eqGuard op t x y a b).run P w = .ok () w := by
  have agg2 : ∀ (op : BinOp) (u v : Array Value), op = .eql ∨ op = .neq → a = .agg u → b = .agg v → (eqGuard op t x y a b).run P w = .ok () w := by
    intro op u v ho hu hv
    have hg := h2 u v hu hv
    subst hu; subst hv
    rcases ho with rfl | rfl <;> simp [eqGuard, hg]
  have nil2 : ∀ (op : BinOp), op = .eql ∨ op = .neq → a = .nilIface → b = .nilIface → (eqGuard op t x y a b).run P w = .ok () w := by
    intro op ho hu hv
    have hc : (isC x || isC y) = true := by
      rcases h1 with h1 | h1 | h1
      · exact absurd hu h1
      · exact absurd hv h1
      · exact h1
    subst hu; subst hv
    clear h1 h2 agg2
    rcases ho with rfl | rfl <;> cases x <;> cases y <;> first | rfl | exact absurd hc (by simp [isC])
  cases op <;> first | rfl | skip
  all_goals
    by_cases ha : (∃ u v, a = .agg u ∧ b = .agg v)
    · obtain ⟨u, v, hu, hv⟩ := ha
      exact agg2 _ u v (by simp) hu hv
    · by_cases hn : a = .nilIface ∧ b = .nilIface
      · exact nil2 _ (by simp) hn.1 hn.2
      · clear agg2 nil2 h1 h2
        cases a <;> cases b <;> first | rfl | exact absurd ⟨rfl, rfl⟩ hn | exact absurd ⟨_, _, rfl, rfl⟩ ha

theorem bin_sound {T : TypeId → Option TI} (hT : T = TY P) {eqt : TypeId → Bool} (he : EqtOK P eqt) {t : TypeId} {op : BinOp} {x y : Operand} {vx vy : Value} {px py p : PVal} (rx : Rep w L m vx px) (ry : Rep w L m vy py)
    (h : (bin T eqt t (isC x || isC y) op px py).run = some p) : ∃ v, (do eqGuard op t x y vx vy; binOp op t vx vy : Sem Value).run P w = .ok v w ∧ Rep w L m v p := by
  have fin : ∀ (hg : (eqGuard op t x y vx vy).run P w = .ok () w) (hb : ∃ v, (binOp op t vx vy).run P w = .ok v w ∧ Rep w L m v p), ∃ v, (do eqGuard op t x y vx vy; binOp op t vx vy : Sem Value).run P w = .ok v w ∧ Rep w L m v p := by
    intro hg ⟨v, hv, hr⟩
    exact ⟨v, by rw [Sem.run_bind, hg]; exact hv, hr⟩
  unfold bin at h
  split at h
  · -- whole numbers
    rename_i k a k' b
    cases rx; cases ry
    refine fin (guard_run (.inl (by simp)) (by simp)) ?_
    split at h
    · obtain ⟨h0, h⟩ := tree_ite_fail h
      cases run_ret_inv h
      have : ¬ b < 0 := by simpa using h0
      exact ⟨_, by simp [binOp, Op.shift, this], .int _ _⟩
    · obtain ⟨h0, h⟩ := tree_ite_fail h
      cases run_ret_inv h
      have : ¬ b < 0 := by simpa using h0
      exact ⟨_, by simp [binOp, Op.shift, this], .int _ _⟩
    · rename_i n1 n2
      split at h
      · rename_i hk; subst hk
        exact ibin_sound h ⟨n1, n2⟩ t
      · cases h
  · rename_i a b
    cases rx; cases ry
    refine fin (guard_run (.inl (by simp)) (by simp)) ?_
    split at h
    · rename_i hb
      exact eqOut_sound h (by simp) (run_equal_bool' t _ (isBool_inv hT hb) rfl a b) (fun o => by cases o <;> rfl)
    · cases h
  · cases rx; cases ry
    exact fin (guard_run (.inl (by simp)) (by simp)) (sbin_sound h t)
  · rename_i a b
    split at h
    · rename_i hq
      split at h
      · rename_i i hi
        rw [hT] at hi
        split at h
        · rename_i hft
          simp only [Bool.and_eq_true] at hft
          split at h
          · rename_i r hr
            have rx' := rx
            have ry' := ry
            cases rx; cases ry
            obtain ⟨hrun, hguard⟩ := he t w L m _ _ _ _ r i hq hi hft.1 hft.2 rx' ry' hr
            exact fin (guard_run (.inl (by simp)) (fun _ _ _ _ => hguard)) (eqOut_sound h (by simp) hrun (fun o => by cases o <;> rfl))
          · cases h
        · cases h
      · cases h
    · cases h
  · cases rx; cases ry
    split at h
    · rename_i hq
      simp only [Bool.and_eq_true] at hq
      obtain ⟨ms, hu⟩ := isIface_inv hT hq.1
      exact fin (guard_run (.inr (.inr hq.2)) (by simp)) (eqOut_sound h (by simp) (equal_nili t hu) (fun o => by cases o <;> rfl))
    · cases h
  · cases rx; cases ry
    split at h
    · rename_i hq
      obtain ⟨ms, hu⟩ := isIface_inv hT hq
      exact fin (guard_run (.inl (by simp)) (by simp)) (eqOut_sound h (by simp) (equal_ifc_nili t _ _ hu) (fun o => by cases o <;> rfl))
    · cases h
  · cases rx; cases ry
    split at h
    · rename_i hq
      obtain ⟨ms, hu⟩ := isIface_inv hT hq
      exact fin (guard_run (.inr (.inl (by simp))) (by simp)) (eqOut_sound h (by simp) (equal_nili_ifc t _ _ hu) (fun o => by cases o <;> rfl))
    · cases h
  · cases rx; cases ry
    split at h
    · rename_i hq
      obtain ⟨ms, hu⟩ := isPtr_inv hT hq
      exact fin (guard_run (.inl (by simp)) (by simp)) (eqOut_sound h (by simp) (equal_nilp t _ hu) (fun o => by cases o <;> rfl))
    · cases h
  · cases rx; cases ry
    split at h
    · rename_i hq
      obtain ⟨ms, hu⟩ := isPtr_inv hT hq
      exact fin (guard_run (.inl (by simp)) (by simp)) (eqOut_sound h (by simp) (equal_loc_nilp t _ _ hu) (fun o => by cases o <;> rfl))
    · cases h
  · cases rx; cases ry
    split at h
    · rename_i hq
      obtain ⟨ms, hu⟩ := isPtr_inv hT hq
      exact fin (guard_run (.inl (by simp)) (by simp)) (eqOut_sound h (by simp) (equal_nilp_loc t _ _ hu) (fun o => by cases o <;> rfl))
    · cases h
  · cases h

theorem un_sound {op : UnOp} {vx : Value} {px p : PVal} (rx : Rep w L m vx px) (h : (un op px).run = some p) : ∃ v, (Op.unary op vx).run P w = .ok v w ∧ Rep w L m v p := by
  unfold un at h
  split at h
  · cases rx; cases run_ret_inv h; exact ⟨_, by simp [Op.unary, Op.intArith], .int _ _⟩
  · rename_i k n
    cases rx; cases run_ret_inv h; exact ⟨.int k (bitsI .xor k (if k.signed then -1 else k.max) n), by simp [Op.unary, Op.intBits, bitsI], .int _ _⟩
  · cases rx; cases run_ret_inv h; exact ⟨_, by simp [Op.unary], .bool _⟩
  · cases h

end Go.Pi
