/- append. -/
import Derived.Test.YtgikackicafjbaaGreatDoorPiOps5
set_option linter.unusedVariables false
set_option linter.unusedSimpArgs false
namespace Go.Pi

variable {P : Program} {w : World} {L : Nat → Nat} {m : List Nat}

/-- The cells of elements, one behind the other. -/
structure ERep (w : World) (L : Nat → Nat) (m : List Nat) (sz : Nat) (vs : List Value) (xs : List PVal) : Prop where
  len : vs.length = xs.length * sz
  size : ∀ (i : Nat) (x : PVal), xs[i]? = some x → x.cells.length = sz
  one : ∀ v ∈ vs, v.oneCell' = true
  rep : ∀ (i : Nat) (x : PVal) (j : Nat) (p : PVal), xs[i]? = some x → x.cells[j]? = some p → ∃ v, vs[i * sz + j]? = some v ∧ Rep w L m v p
  nl : ∀ (i : Nat) (x : PVal) (j : Nat) (p : PVal), xs[i]? = some x → x.cells[j]? = some p → NL p

theorem ERep.ext {w' : World} {L' : Nat → Nat} {m' : List Nat} {sz : Nat} {vs : List Value} {xs : List PVal} (h : ERep w L m sz vs xs) (e : Ext w L m w' L' m') : ERep w' L' m' sz vs xs :=
  ⟨h.len, h.size, h.one, fun i x j p hx hp => let ⟨v, hv, hr⟩ := h.rep i x j p hx hp; ⟨v, hv, hr.ext e⟩, h.nl⟩

theorem ERep.nil (sz : Nat) : ERep w L m sz [] [] := ⟨by simp, by simp, by simp, by simp, by simp⟩

theorem ERep.append {sz : Nat} {vs us : List Value} {xs ys : List PVal} (h : ERep w L m sz vs xs) (k : ERep w L m sz us ys) : ERep w L m sz (vs ++ us) (xs ++ ys) := by
  refine ⟨by simp [h.len, k.len, Nat.add_mul], fun i x hx => ?_, fun v hv => ?_, fun i x j p hx hp => ?_, fun i x j p hx hp => ?_⟩
  · rcases Nat.lt_or_ge i xs.length with hi | hi
    · rw [List.getElem?_append_left hi] at hx; exact h.size i x hx
    · rw [List.getElem?_append_right hi] at hx; exact k.size _ x hx
  · rw [List.mem_append] at hv
    rcases hv with hv | hv
    · exact h.one v hv
    · exact k.one v hv
  · rcases Nat.lt_or_ge i xs.length with hi | hi
    · rw [List.getElem?_append_left hi] at hx
      obtain ⟨v, hv, hr⟩ := h.rep i x j p hx hp
      exact ⟨v, by rw [List.getElem?_append_left (List.getElem?_eq_some_iff.1 hv).1]; exact hv, hr⟩
    · rw [List.getElem?_append_right hi] at hx
      obtain ⟨v, hv, hr⟩ := k.rep _ x j p hx hp
      refine ⟨v, ?_, hr⟩
      have e : i * sz + j = vs.length + ((i - xs.length) * sz + j) := by
        rw [h.len, ← Nat.add_assoc, ← Nat.add_mul, Nat.add_sub_cancel' hi]
      rw [e, List.getElem?_append_right (by omega), Nat.add_sub_cancel_left]
      exact hv
  · rcases Nat.lt_or_ge i xs.length with hi | hi
    · rw [List.getElem?_append_left hi] at hx; exact h.nl i x j p hx hp
    · rw [List.getElem?_append_right hi] at hx; exact k.nl _ x j p hx hp

/-- Elements that lie in memory. -/
theorem ERep.slice {sz : Nat} {vs : List Value} {xs : List PVal} (h : ERep w L m sz vs xs) {b o c : Nat} (hc : xs.length ≤ c) (hm : xs.length ≤ maxLen) (hcell : ∀ q v, vs[q]? = some v → w.cell? ⟨b, o + q, none⟩ = some v) (hL : o + xs.length * sz ≤ L b) :
    Rep w L m (.slice (some ⟨b, o, none⟩) xs.length c) (.sl sz xs) := by
  have hg : ∀ q, q < xs.length * sz → vs[q]? = some (vs.getD q undef) := by
    intro q hq
    have : q < vs.length := by rw [h.len]; exact hq
    simp [List.getD_eq_getElem?_getD, this]
  refine .sl b o _ c sz xs (fun q => vs.getD q undef) rfl hc hm h.size (fun q hq => hcell q _ (hg q hq)) (fun q hq => h.one _ (List.mem_of_getElem? (hg q hq))) hL (fun i x j p hx hp => ?_) h.nl
  obtain ⟨v, hv, hr⟩ := h.rep i x j p hx hp
  have : vs.getD (i * sz + j) undef = v := by simp [List.getD_eq_getElem?_getD, hv]
  rw [this]; exact hr

theorem erep_of {A : Option Addr} {n c sz size : Nat} {xs : List PVal} (h : Rep w L m (.slice A n c) (.sl sz xs)) (hs : sz = size ∨ xs = []) :
    ∃ vs, ERep w L m size vs xs ∧ (Builtin.firstCells size n (.slice A n c)).run P w = .ok vs.toArray w ∧ xs.length = n ∧ n ≤ c ∧ n ≤ maxLen ∧ ∀ b o, A = some ⟨b, o, none⟩ → ∀ q v, vs[q]? = some v → w.cell? ⟨b, o + q, none⟩ = some v := by
  cases h with
  | sl0 =>
    refine ⟨[], ERep.nil size, ?_, rfl, Nat.zero_le _, Nat.zero_le _, fun b o _ q v hv => by simp at hv⟩
    cases A <;> simp [Builtin.firstCells, loadCells, loadCellsFrom]
  | sl b o _ _ _ _ cv hn hc hm hsz hcell hone hL hh hN =>
    have hs' : sz = size ∨ n = 0 := by
      rcases hs with h | h
      · exact .inl h
      · right; rw [← hn, h]; rfl
    have hnsz : n * sz = n * size := by rcases hs' with h | h <;> simp [h]
    have hget : ∀ q v, ((List.range (n * size)).map cv)[q]? = some v → q < n * size ∧ v = cv q := by
      intro q v hv
      have hq : q < n * size := by have := (List.getElem?_eq_some_iff.1 hv).1; simpa using this
      simp [hq] at hv
      exact ⟨hq, hv.symm⟩
    refine ⟨(List.range (n * size)).map cv, ⟨by simp [hn], fun i x hx => ?_, fun v hv => ?_, fun i x j p hx hp => ?_, hN⟩, ?_, hn, hc, hm, fun b' o' e q v hv => ?_⟩
    · have hi : i < n := by rw [← hn]; exact (List.getElem?_eq_some_iff.1 hx).1
      rcases hs' with h | h
      · rw [hsz i x hx, h]
      · omega
    · obtain ⟨q, hq⟩ := List.mem_iff_getElem?.1 hv
      obtain ⟨h1, rfl⟩ := hget q v hq
      exact hone q (by omega)
    · have hi : i < n := by rw [← hn]; exact (List.getElem?_eq_some_iff.1 hx).1
      have hse : sz = size := by rcases hs' with h | h; exact h; omega
      subst hse
      have hj : j < sz := by rw [← hsz i x hx]; exact (List.getElem?_eq_some_iff.1 hp).1
      have hle : i * sz + sz ≤ n * sz := by rw [← Nat.succ_mul]; exact Nat.mul_le_mul_right _ (by omega)
      exact ⟨cv (i * sz + j), by simp [show i * sz + j < n * sz by omega], hh i x j p hx hp⟩
    · simp only [Builtin.firstCells]
      exact run_loadCells w ⟨b, o, none⟩ (n * size) cv fun j hj => by rw [addr_add]; exact hcell j (by omega)
    · simp only [Option.some.injEq, Addr.mk.injEq, and_true] at e
      obtain ⟨rfl, rfl⟩ := e
      obtain ⟨h1, rfl⟩ := hget q v hv
      exact hcell q (by omega)

/-- A string's bytes as cells. -/
theorem erep_str (b : ByteArray) : ∃ vs, ERep w L m 1 vs (b.data.toList.map fun x => PVal.int .u8 x.toNat) ∧ (Builtin.firstCells 1 b.size (.string b)).run P w = .ok vs.toArray w := by
  refine ⟨b.data.toList.map fun x => Value.int .u8 x.toNat, ⟨by simp, fun i x hx => ?_, fun v hv => ?_, fun i x j p hx hp => ?_, fun i x j p hx hp => ?_⟩, ?_⟩
  · rw [List.getElem?_map] at hx
    cases hb : b.data.toList[i]? <;> rw [hb] at hx <;> simp at hx
    subst hx; rfl
  · simp only [List.mem_map] at hv
    obtain ⟨x, _, rfl⟩ := hv; rfl
  · rw [List.getElem?_map] at hx
    cases hb : b.data.toList[i]? with
    | none => rw [hb] at hx; simp at hx
    | some y =>
      rw [hb] at hx
      simp at hx
      subst hx
      cases j with
      | zero => simp [PVal.cells] at hp; subst hp; exact ⟨_, by rw [Nat.mul_one, Nat.add_zero, List.getElem?_map, hb]; rfl, .int _ _⟩
      | succ j => simp [PVal.cells] at hp
  · rw [List.getElem?_map] at hx
    cases hb : b.data.toList[i]? <;> rw [hb] at hx <;> simp at hx
    subst hx
    cases j with
    | zero => simp [PVal.cells] at hp; subst hp; exact .int _ _
    | succ j => simp [PVal.cells] at hp
  · simp only [Builtin.firstCells]
    have : b.extract 0 b.size = b := by
      apply ByteArray.ext
      simp [ByteArray.data_extract]
    rw [this]
    simp only [Sem.run_pure]
    congr 1
    apply Array.ext'
    simp

/-- Is it no whole number's type? -/
def noInt : TypeDesc → Bool
  | .int _ => false
  | _ => true

theorem append_room {t t2 ty e : TypeId} {i : TypeInfo} {d2 : TypeDesc} (ht : P.underlying t = some (.slice e)) (hi : P.info? e = some i) (ht2 : P.underlying t2 = some d2) (hd2 : noInt d2 = true) {A : Option Addr} {n c k : Nat} {vy : Value} {news : List Value} {w' : World}
    (hk : (Builtin.lenOf vy).run P w = .ok k w) (hf : (Builtin.firstCells i.size k vy).run P w = .ok news.toArray w) (hroom : n + k ≤ c)
    (hst : ∀ ad, A = some ad → (storeCells (ad.add (n * i.size)) news).run P w = .ok () w') (hno : A = none → w' = w) :
    (Builtin.append_ #[t, t2] ty #[.slice A n c, vy]).run P w = .ok (.slice A (n + k) c) w' := by
  unfold Builtin.append_
  simp only [Sem.run_bind, run_underlying ht, run_underlying ht2, Result.andThen_ok, run_sizeOf hi, Sem.run_pure, hk,
    show (#[t, t2] : Array TypeId)[0]? = some t from rfl, show (#[t, t2] : Array TypeId)[1]? = some t2 from rfl,
    show (#[Value.slice A n c, vy] : Array Value)[0]? = some (.slice A n c) from rfl, show (#[Value.slice A n c, vy] : Array Value)[1]? = some vy from rfl]
  cases d2
  case int => cases hd2
  all_goals
    simp only [Bool.not_false, if_true, Bool.false_eq_true, if_false]
    rw [Sem.run_bind, hk, Result.andThen_ok, if_pos hroom, Sem.run_bind, hf, Result.andThen_ok]
    cases A with
    | none => simp [hno rfl]
    | some ad => simp [hst ad rfl]

theorem append_grow {t t2 ty e : TypeId} {i : TypeInfo} {z : Value} {d2 : TypeDesc} (ht : P.underlying t = some (.slice e)) (hi : P.info? e = some i) (hz : i.zero = some z) (ht2 : P.underlying t2 = some d2) (hd2 : noInt d2 = true) {A : Option Addr} {n c k : Nat} {vy : Value} {old news : List Value}
    (hk : (Builtin.lenOf vy).run P w = .ok k w) (hf : (Builtin.firstCells i.size k vy).run P w.drew = .ok news.toArray w.drew) (ho : (Builtin.firstCells i.size n (.slice A n c)).run P w.drew = .ok old.toArray w.drew) (hroom : c < n + k) (h63 : n + k ≤ 9223372036854775807)
    (hb : Builtin.nextslicecap (n + k) c * i.bytes ≤ 281474976710656) :
    (Builtin.append_ #[t, t2] ty #[.slice A n c, vy]).run P w = .ok (.slice (some ⟨w.heap.size, 0, none⟩) (n + k) (grownCap w (n + k) c e)) (w.drew.alloc (.cells (old.toArray ++ news.toArray ++ Builtin.zeroCells z.cells (grownCap w (n + k) c e - (n + k))) e)) := by
  unfold Builtin.append_
  simp only [Sem.run_bind, run_underlying ht, run_underlying ht2, Result.andThen_ok, run_sizeOf hi, Sem.run_pure, hk,
    show (#[t, t2] : Array TypeId)[0]? = some t from rfl, show (#[t, t2] : Array TypeId)[1]? = some t2 from rfl,
    show (#[Value.slice A n c, vy] : Array Value)[0]? = some (.slice A n c) from rfl, show (#[Value.slice A n c, vy] : Array Value)[1]? = some vy from rfl]
  have hmax : IntKind.i64.max = 9223372036854775807 := by decide
  have h1 : ¬ (((n + k : Nat) : Int) > IntKind.i64.max ∧ (False ∨ i.bytes = 0)) := by rw [hmax]; omega
  have h2 : ¬ Builtin.nextslicecap (n + k) c * i.bytes > 2 ^ 48 := by simpa using hb
  have e : ({ w with drawn := w.drawn + 1 } : World) = w.drew := rfl
  cases d2
  case int => cases hd2
  all_goals
    simp only [Bool.not_false, if_true, Bool.false_eq_true, if_false]
    rw [Sem.run_bind, hk, Result.andThen_ok, if_neg (Nat.not_le.2 hroom)]
    simp only [Sem.run_bind, run_typeInfo hi, Result.andThen_ok, Sem.run_pure, Sem.run_ite, h1, h2, if_false, run_choose, Question.forced, Bool.false_eq_true, run_askRoom, run_zeroValue hi hz]
    rw [e, ho]
    simp only [Result.andThen_ok, Sem.run_bind, hf, run_zeroValue hi hz, Sem.run_pure]
    rfl

theorem holds_row {s : St} {tmps : Array Value} {b : Nat} {cur' : Array Value} (hbm : b ∉ m) {who : Who} {v : Value} {sz : Nat} (hh : Holds (w.setRow b cur') m s tmps who v sz) : Holds w m s tmps who v sz := by
  cases hh with
  | slot t j val pv u sz xs hv hp2 ho hc2 hq => exact .slot t j val pv v sz xs hv hp2 ho hc2 hq
  | cell i j ob k cu e2 v2 sz xs hi hk hp2 hv hq ho =>
    have hkb : k ≠ b := fun e => hbm (by rw [← e]; exact List.mem_of_getElem? hk)
    exact .cell i j ob k cu e2 v sz xs hi hk ((setRow_plain hkb).1 hp2) hv hq ho

theorem holds_quiet {w' : World} {L' : Nat → Nat} {s : St} {tmps : Array Value} (q : Quiet w L w' L') (hr : HRel w L m s.h) {who : Who} {v : Value} {sz : Nat} (hh : Holds w' m s tmps who v sz) : Holds w m s tmps who v sz := by
  cases hh with
  | slot t j val pv u sz xs hv hp ho hc hq => exact .slot t j val pv v sz xs hv hp ho hc hq
  | cell i j ob b cur e v2 sz xs hi hb hp hv hq ho => exact .cell i j ob b cur e v sz xs hi hb ((q.plain (obj_lt hr (List.mem_of_getElem? hb))).1 hp) hv hq ho

theorem tail_lt {may : Nat → Prop} {sz : Nat} {v : Value} (h : TailOK w L m may sz v) {k : Nat} (hk : tailBlk v = some k) : k < w.heap.size := by
  unfold tailBlk at hk
  split at hk
  · rename_i a n c
    split at hk
    · rename_i hlt
      injection hk with hk
      obtain ⟨b, o, cur, e, he, _, hp, _⟩ := h _ n c rfl hlt
      injection he with he
      subst he
      rw [← hk]
      exact plain_lt hp
    · cases hk
  · cases hk

/-- 'append', where 'ys' is what 'y' adds. -/
theorem append_core {c : Ctx} {s : St} {a : Act} (h : Sim c w L m s a) {t t2 ty e : TypeId} {ti : TypeInfo} {z : Value} {d2 : TypeDesc} (ht : P.underlying t = some (.slice e)) (hi : P.info? e = some ti) (hz : ti.zero = some z) (hzs : z.cells.size = ti.size) (ht2 : P.underlying t2 = some d2) (hd2 : noInt d2 = true)
    {A : Option Addr} {n cc sz k : Nat} {xs ys : List PVal} {vy : Value} (h0 : 0 < ti.size) (rx : Rep w L m (.slice A n cc) (.sl sz xs)) (hsz : sz = ti.size ∨ (sz = 0 ∧ xs = [])) (tail : TailOK w L m c.may sz (.slice A n cc))
    (free : ∀ (who : Who) (u : Value) (sz' : Nat), Holds w m s a.tmps who u sz' → ∀ k, tailBlk u = some k → tailBlk (.slice A n cc) ≠ some k)
    (hk : (Builtin.lenOf vy).run P w = .ok k w) (hkl : ys.length = k)
    (hy : ∀ (w' : World), (∀ (b : Nat), w'.heap[b]? = w.heap[b]?) → ∃ news, ERep w' L m ti.size news ys ∧ (Builtin.firstCells ti.size k vy).run P w' = .ok news.toArray w')
    (hb1 : (xs.length + ys.length) * ti.bytes ≤ 140737488355328) (hb2 : xs.length + ys.length ≤ 9223372036854775807) (d : Option Tmp) :
    ∃ v' w' L', (Builtin.append_ #[t, t2] ty #[.slice A n cc, vy]).run P w = .ok v' w' ∧ Sim c w' L' m (s.put d (.sl ti.size (xs ++ ys)) [true]) (a.put d v') := by
  have hlen : xs.length = n ∧ n ≤ cc := by cases rx <;> simp_all
  have hxs : sz = ti.size ∨ xs = [] := hsz.imp id (·.2)
  subst hkl
  by_cases hroom : n + ys.length ≤ cc
  · by_cases hk0 : ys.length = 0
    · -- nothing is added
      have hys : ys = [] := List.eq_nil_of_length_eq_zero hk0
      subst hys
      obtain ⟨news, hn, hf⟩ := hy w (fun _ => rfl)
      have hnn : news = [] := List.eq_nil_of_length_eq_zero (by simpa using hn.len)
      subst hnn
      refine ⟨.slice A n cc, w, L, ?_, ?_⟩
      · have := append_room (P := P) (w := w) (ty := ty) (n := n) (c := cc) (A := A) (news := []) (w' := w) ht hi ht2 hd2 hk hf hroom (fun ad _ => rfl) (fun _ => rfl)
        simpa using this
      · rw [List.append_nil]
        have rx' : Rep w L m (.slice A n cc) (.sl ti.size xs) := by
          rcases hxs with e | e
          · rw [← e]; exact rx
          · subst e
            have : n = 0 := by rw [← hlen.1]; rfl
            subst this
            exact .sl0 _ _ _
        refine h.put_own d true rx' (fun _ => ?_) (fun _ who u sz' hh _ => free who u sz' hh)
        rcases hsz with e | ⟨e, _⟩
        · rw [← e]; exact tail
        · intro A' n' c' e' hlt
          obtain ⟨_, _, _, _, _, hpos, _⟩ := tail A' n' c' e' hlt
          omega
    · -- in place
      have hlt : n < cc := by omega
      obtain ⟨b, o, cur, et, rfl, hpos, hp, hLb, hfit, hbm, hmay, hcm⟩ := tail A n cc rfl hlt
      have hse : sz = ti.size := by rcases hsz with h | ⟨h, _⟩; exact h; omega
      subst hse
      obtain ⟨news, hn, hf⟩ := hy w (fun _ => rfl)
      obtain ⟨vs, hv, _, _, _, _, hvc⟩ := erep_of (P := P) rx (.inl rfl)
      have hle : (n + ys.length) * ti.size ≤ cc * ti.size := Nat.mul_le_mul_right _ hroom
      have hmul : (n + ys.length) * ti.size = n * ti.size + ys.length * ti.size := Nat.add_mul _ _ _
      have hnl : news.length = ys.length * ti.size := hn.len
      have hst : (storeCells ⟨b, o + n * ti.size, none⟩ news 0).run P w = .ok () (w.setRow b (cur.toList.take (o + n * ti.size + 0) ++ news ++ cur.toList.drop (o + n * ti.size + 0 + news.length)).toArray) :=
        run_storeCells_at P b (o + n * ti.size) et news 0 cur w hp (by omega) hn.one
      simp only [Nat.add_zero] at hst
      let cur' : Array Value := (cur.toList.take (o + n * ti.size) ++ news ++ cur.toList.drop (o + n * ti.size + news.length)).toArray
      have hcur' : cur'.size = cur.size := by simp [cur']; omega
      have hget : ∀ q, q < o + n * ti.size → cur'[q]? = cur[q]? := by
        intro q hq
        simp only [cur', List.getElem?_toArray, List.append_assoc]
        rw [List.getElem?_append_left (by simp; omega), List.getElem?_take, if_pos hq]
        simp
      have hget2 : ∀ q v, news[q]? = some v → cur'[o + n * ti.size + q]? = some v := by
        intro q v hq
        have hql : q < news.length := (List.getElem?_eq_some_iff.1 hq).1
        have htl : (cur.toList.take (o + n * ti.size)).length = o + n * ti.size := by simp; omega
        simp only [cur', List.getElem?_toArray, List.append_assoc]
        rw [List.getElem?_append_right (by omega), htl, Nat.add_sub_cancel_left, List.getElem?_append_left hql]
        exact hq
      have hfree : ∀ (who : Who) (v : Value) (sz' : Nat), Holds w m s a.tmps who v sz' → tailBlk v ≠ some b := by
        intro who v sz' hh hv'
        exact free who v sz' hh b hv' (by simp [tailBlk, hlt])
      have hs2 := h.grow (cur' := cur') (n := o + (n + ys.length) * ti.size) hp hbm hmay (fun q hq => hget q (by omega)) (by omega) hcur' hfree
      have ex : Ext w L m (w.setRow b cur') (setL L b (o + (n + ys.length) * ti.size)) m := setRow_ext hp (fun q hq => hget q (by omega)) (by
        intro k
        by_cases hkb : k = b
        · subst hkb; rw [setL_same]; omega
        · rw [setL_ne L _ hkb]; exact Nat.le_refl _)
      have he := (hv.ext ex).append (hn.ext ex)
      have hrep : Rep (w.setRow b cur') (setL L b (o + (n + ys.length) * ti.size)) m (.slice (some ⟨b, o, none⟩) (n + ys.length) cc) (.sl ti.size (xs ++ ys)) := by
        have hl2 : (xs ++ ys).length = n + ys.length := by simp [hlen.1]
        have hcell : ∀ q v, (vs ++ news)[q]? = some v → (w.setRow b cur').cell? ⟨b, o + q, none⟩ = some v := by
          intro q v hq
          rw [setRow_cell_same hp]
          have hvl : vs.length = n * ti.size := by rw [hv.len, hlen.1]
          rcases Nat.lt_or_ge q vs.length with h1 | h1
          · rw [List.getElem?_append_left h1] at hq
            rw [hget _ (by omega), ← cell_of_row w b (o + q) cur et (0, 0) hp]
            exact hvc b o rfl q v hq
          · rw [List.getElem?_append_right h1] at hq
            have := hget2 (q - vs.length) v hq
            rw [show o + q = o + n * ti.size + (q - vs.length) by omega]
            exact this
        have := he.slice (b := b) (o := o) (c := cc) (by rw [hl2]; exact hroom) (by rw [hl2]; omega) hcell (by rw [hl2, setL_same]; exact Nat.le_refl _)
        rwa [hl2] at this
      refine ⟨_, _, _, append_room (P := P) (w := w) (ty := ty) (n := n) (c := cc) (news := news) (w' := w.setRow b cur') ht hi ht2 hd2 hk hf hroom (fun ad e => ?_) (fun e => by cases e), hs2.put_own d true hrep (fun _ => ?_) (fun _ who u sz' hh _ k hk' => ?_)⟩
      · injection e with e
        subst e
        rw [addr_add]
        exact hst
      · intro A' n' c' e' hlt'
        injection e' with e1 e2 e3
        subst e1; subst e2; subst e3
        exact ⟨b, o, cur', et, rfl, hpos, setRow_heap w b cur cur' et (0, 0) hp, by rw [setL_same]; exact Nat.le_refl _, by rw [hcur']; exact hfit, hbm, hmay, hcm⟩
      · intro hv'
        have hb' : k = b := by
          simp only [tailBlk] at hv'
          split at hv'
          · injection hv' with hv'; exact hv'.symm
          · cases hv'
        subst hb'
        exact hfree who u sz' (holds_row hbm hh) hk'
  · -- a new row
    have hq : Quiet w L w.drew L := Quiet.drew h.new
    obtain ⟨news, hn, hf⟩ := hy w.drew (fun _ => rfl)
    obtain ⟨old, ho, hof, _⟩ := erep_of (P := P) (rx.ext (hq.ext h.new m)) hxs
    have hneed : cc < n + ys.length := by omega
    have hcap := grownCap_ge w (n + ys.length) cc e
    have hcapm : grownCap w (n + ys.length) cc e ≤ maxLen := grownCap_le_maxLen w _ _ _ (by rw [hlen.1] at hb2; simpa [maxLen] using hb2)
    have hrun := append_grow (P := P) (w := w) (ty := ty) ht hi hz ht2 hd2 hk hf hof hneed (by rw [← hlen.1]; exact hb2) (growslice_fits hneed (by rw [← hlen.1]; exact hb1))
    let rest := Builtin.zeroCells z.cells (grownCap w (n + ys.length) cc e - (n + ys.length))
    let cells : Array Value := old.toArray ++ news.toArray ++ rest
    have hq2 : Quiet w.drew L (w.drew.alloc (.cells cells e)) (setL L w.drew.heap.size ((n + ys.length) * ti.size)) := Quiet.alloc _ _ h.new
    have hqq := hq.trans hq2
    have hol : old.length = n * ti.size := by rw [ho.len, hlen.1]
    have hnl : news.length = ys.length * ti.size := hn.len
    have hmul : (n + ys.length) * ti.size = n * ti.size + ys.length * ti.size := Nat.add_mul _ _ _
    have hs2 := h.quiet hqq
    have ex := hq2.ext h.new m
    have he := (ho.ext ex).append (hn.ext ex)
    have hl2 : (xs ++ ys).length = n + ys.length := by simp [hlen.1]
    have hsize : w.drew.heap.size = w.heap.size := rfl
    have hrep : Rep (w.drew.alloc (.cells cells e)) (setL L w.drew.heap.size ((n + ys.length) * ti.size)) m (.slice (some ⟨w.heap.size, 0, none⟩) (n + ys.length) (grownCap w (n + ys.length) cc e)) (.sl ti.size (xs ++ ys)) := by
      have hcell : ∀ q v, (old ++ news)[q]? = some v → (w.drew.alloc (.cells cells e)).cell? ⟨w.heap.size, 0 + q, none⟩ = some v := by
        intro q v hq
        rw [Nat.zero_add, show (w.drew.alloc (.cells cells e)).cell? ⟨w.heap.size, q, none⟩ = cells[q]? from World.cell?_alloc_at (w := w.drew) cells e w.heap.size q rfl]
        have : q < (old ++ news).length := (List.getElem?_eq_some_iff.1 hq).1
        simp only [cells]
        rw [Array.getElem?_append_left (by simp at this ⊢; omega)]
        simpa using hq
      have := he.slice (b := w.heap.size) (o := 0) (c := grownCap w (n + ys.length) cc e) (by rw [hl2]; exact hcap) (by rw [hl2]; omega) hcell (by rw [hl2, hsize, setL_same]; omega)
      rwa [hl2] at this
    refine ⟨_, _, _, hrun, hs2.put_own d true hrep (fun _ => ?_) (fun _ who u sz' hh _ k hk' => ?_)⟩
    · intro A' n' c' e' hlt'
      injection e' with e1 e2 e3
      subst e1; subst e2; subst e3
      refine ⟨w.heap.size, 0, cells, e, rfl, h0, heap_alloc_new w.drew _, by rw [hsize, setL_same]; omega, ?_, fun hm => by have := obj_lt h.hrel hm; omega, .inl h.size, hcapm⟩
      have hr : rest.size = (grownCap w (n + ys.length) cc e - (n + ys.length)) * ti.size := by simp only [rest]; rw [size_zeroCells, hzs]
      have : grownCap w (n + ys.length) cc e * ti.size = (n + ys.length) * ti.size + (grownCap w (n + ys.length) cc e - (n + ys.length)) * ti.size := by rw [← Nat.add_mul, Nat.add_sub_cancel' hcap]
      simp only [cells, Array.size_append, List.size_toArray, hr]
      omega
    · intro hv'
      have hb' : k = w.heap.size := by
        simp only [tailBlk] at hv'
        split at hv'
        · injection hv' with hv'; exact hv'.symm
        · cases hv'
      have := tail_lt (h.own.tail who u sz' (holds_quiet hqq h.hrel hh)) hk'
      omega

end Go.Pi
