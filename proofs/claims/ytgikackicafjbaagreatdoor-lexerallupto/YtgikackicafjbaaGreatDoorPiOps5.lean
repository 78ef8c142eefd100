/- What is built out of parts. -/
import Derived.Test.YtgikackicafjbaaGreatDoorPiOps2
set_option linter.unusedVariables false
set_option linter.unusedSimpArgs false
namespace Go.Pi

variable {P : Program} {w : World} {L : Nat → Nat} {m : List Nat}

theorem splice_get (off : Nat) : ∀ (vc : List Value) (k : Nat) (cells : Array Value) (i : Nat),
    ((vc.zipIdx k).foldl (fun cs (x : Value × Nat) => cs.setIfInBounds (off + x.2) x.1) cells)[i]? = if off + k ≤ i ∧ i < off + k + vc.length ∧ i < cells.size then vc[i - (off + k)]? else cells[i]?
  | [], k, cells, i => by
    simp only [List.zipIdx_nil, List.foldl_nil, List.length_nil]
    rw [if_neg (by omega)]
  | v :: vc, k, cells, i => by
    simp only [List.zipIdx_cons, List.foldl_cons]
    rw [splice_get off vc (k + 1)]
    simp only [Array.size_setIfInBounds, List.length_cons]
    by_cases h1 : off + (k + 1) ≤ i ∧ i < off + (k + 1) + vc.length ∧ i < cells.size
    · rw [if_pos h1, if_pos (by omega), show i - (off + k) = (i - (off + (k + 1))) + 1 by omega, List.getElem?_cons_succ]
    · rw [if_neg h1]
      by_cases h2 : off + k = i
      · subst h2
        by_cases h3 : off + k < cells.size
        · rw [if_pos ⟨Nat.le_refl _, by omega, h3⟩, Array.getElem?_setIfInBounds_self_of_lt h3, Nat.sub_self]; rfl
        · rw [if_neg (by omega), Array.getElem?_eq_none (by simp; omega), Array.getElem?_eq_none (by omega)]
      · rw [Array.getElem?_setIfInBounds_ne h2, if_neg (by omega)]

/-- Cells and what they say; each is one cell. -/
structure CRep (w : World) (L : Nat → Nat) (m : List Nat) (vs : Array Value) (ps : List PVal) : Prop where
  len : vs.size = ps.length
  rep : ∀ (i : Nat) (v : Value) (p : PVal), vs[i]? = some v → ps[i]? = some p → Rep w L m v p
  one : ∀ (i : Nat) (v : Value), vs[i]? = some v → v.oneCell' = true

theorem CRep.ext {w' : World} {L' : Nat → Nat} {m' : List Nat} {vs : Array Value} {ps : List PVal} (h : CRep w L m vs ps) (e : Ext w L m w' L' m') : CRep w' L' m' vs ps :=
  ⟨h.len, fun i v p hv hp => (h.rep i v p hv hp).ext e, h.one⟩

theorem CRep.of_lies {v : Value} {p : PVal} (h : Rep w L m v p) (hl : p.lies = true) : CRep w L m v.cells p.cells := by
  obtain ⟨h1, h2⟩ := rep_lies h hl
  refine ⟨h1, fun i c q hc hq => (h2 i c q hc hq).1, fun i c hc => ?_⟩
  have hlt : i < p.cells.length := by rw [← h1]; exact (Array.getElem?_eq_some_iff.1 hc).1
  exact (h2 i c _ hc (List.getElem?_eq_getElem hlt)).2

theorem CRep.splice {cells new : Array Value} {ps qs : List PVal} {off : Nat} (h : CRep w L m cells ps) (k : CRep w L m new qs) (hle : off + new.size ≤ cells.size) :
    CRep w L m (new.zipIdx.foldl (fun cs (x : Value × Nat) => cs.setIfInBounds (off + x.2) x.1) cells) (ps.take off ++ qs ++ ps.drop (off + qs.length)) := by
  have e : new.zipIdx.foldl (fun cs (x : Value × Nat) => cs.setIfInBounds (off + x.2) x.1) cells = (new.toList.zipIdx 0).foldl (fun cs (x : Value × Nat) => cs.setIfInBounds (off + x.2) x.1) cells := by
    rw [← Array.foldl_toList]; simp
  rw [e]
  have hsz : ∀ (l : List (Value × Nat)) (c : Array Value), (l.foldl (fun cs (x : Value × Nat) => cs.setIfInBounds (off + x.2) x.1) c).size = c.size := by
    intro l
    induction l with
    | nil => intro c; rfl
    | cons x l ih => intro c; simp [ih]
  have hlen : (ps.take off ++ qs ++ ps.drop (off + qs.length)).length = ps.length := by
    have h1 := h.len; have h2 := k.len
    simp; omega
  refine ⟨by rw [hsz, hlen, h.len], fun i v p hv hp => ?_, fun i v hv => ?_⟩
  · rw [splice_get] at hv
    simp only [Nat.add_zero, Array.length_toList] at hv
    have h1 := h.len; have h2 := k.len
    split at hv
    · rename_i hc
      rw [List.append_assoc, List.getElem?_append_right (by simp; omega)] at hp
      rw [List.getElem?_append_left (by simp; omega)] at hp
      have : i - (ps.take off).length = i - off := by simp; omega
      rw [this] at hp
      exact k.rep (i - off) v p (by simpa using hv) hp
    · rename_i hc
      rcases Nat.lt_or_ge i off with hi | hi
      · rw [List.append_assoc, List.getElem?_append_left (by simp; omega), List.getElem?_take, if_pos hi] at hp
        exact h.rep i v p hv hp
      · rcases Nat.lt_or_ge i (off + qs.length) with hj | hj
        · have : ¬ i < cells.size := by omega
          rw [Array.getElem?_eq_none (by omega)] at hv; cases hv
        · rw [List.getElem?_append_right (by simp; omega), List.getElem?_drop] at hp
          have : off + qs.length + (i - (ps.take off ++ qs).length) = i := by simp; omega
          rw [this] at hp
          exact h.rep i v p hv hp
  · rw [splice_get] at hv
    split at hv
    · exact k.one _ v (by simpa using hv)
    · exact h.one i v hv

/-- Parts, one by one. -/
structure PRep (w : World) (L : Nat → Nat) (m : List Nat) (vs : List (Nat × Value)) (ps : List (Nat × PVal)) : Prop where
  len : vs.length = ps.length
  at_ : ∀ (i : Nat) (v : Nat × Value) (p : Nat × PVal), vs[i]? = some v → ps[i]? = some p → v.1 = p.1 ∧ Rep w L m v.2 p.2

theorem fill_sound {place : Nat → Option (Nat × Nat)} : ∀ {parts : List (Nat × Value)} {pp : List (Nat × PVal)} {cells : Array Value} {ps qs : List PVal}, PRep w L m parts pp → CRep w L m cells ps → fillP place ps pp = some qs →
    (∀ p ∈ ps, p.one = true) → ∃ out, Instr.fill place cells parts = some out ∧ CRep w L m out qs ∧ (∀ p ∈ qs, p.one = true) ∧ qs.length = ps.length
  | [], pp, cells, ps, qs, hp, hc, h, h1 => by
    cases pp with
    | nil => simp [fillP] at h; subst h; exact ⟨cells, rfl, hc, h1, rfl⟩
    | cons x y => have := hp.len; simp at this
  | (i, v) :: parts, pp, cells, ps, qs, hp, hc, h, h1 => by
    cases pp with
    | nil => have := hp.len; simp at this
    | cons x pp =>
      obtain ⟨j, p⟩ := x
      obtain ⟨e1, hr⟩ := hp.at_ 0 (i, v) (j, p) rfl rfl
      simp only at e1
      subst e1
      have hr : Rep w L m v p := hr
      have hp' : PRep w L m parts pp := ⟨by have := hp.len; simpa using this, fun k a b ha hb => hp.at_ (k + 1) a b (by simpa using ha) (by simpa using hb)⟩
      unfold fillP at h
      split at h
      · cases h
      · rename_i off size hpl
        split at h
        · cases h
        · rename_i hcond
          simp only [Bool.or_eq_true, Bool.not_eq_true', decide_eq_true_eq, not_or, Bool.not_eq_false, Decidable.not_not] at hcond
          obtain ⟨⟨hl, hs⟩, hle⟩ := hcond
          have hcr := CRep.of_lies hr hl
          have hsz : v.cells.size = size := by rw [hcr.len]; exact hs
          have hle' : off + v.cells.size ≤ cells.size := by rw [hcr.len, hc.len]; omega
          have hone : ∀ q ∈ p.cells, q.one = true := by
            intro q hq
            by_cases ha : ∃ cs, p = .agg cs
            · obtain ⟨cs, rfl⟩ := ha
              exact List.all_eq_true.1 hl q hq
            · have h2 : p.one = true := by cases p <;> first | exact hl | exact absurd ⟨_, rfl⟩ ha
              have h3 := (rep_one hr h2).2.2
              rw [h3] at hq
              simp at hq
              subst hq
              exact h2
          have hall : ∀ q ∈ ps.take off ++ p.cells ++ ps.drop (off + p.cells.length), q.one = true := by
            intro q hq
            simp only [List.mem_append] at hq
            rcases hq with (hq | hq) | hq
            · exact h1 q (List.mem_of_mem_take hq)
            · exact hone q hq
            · exact h1 q (List.mem_of_mem_drop hq)
          obtain ⟨out, ho, hco, ho1, hol⟩ := fill_sound hp' (hc.splice hcr hle') h hall
          refine ⟨out, ?_, hco, ho1, ?_⟩
          · unfold Instr.fill
            rw [hpl]
            simp only
            rw [if_neg (by simp only [Bool.or_eq_true, decide_eq_true_eq, not_or]; exact ⟨by simp [hsz], by omega⟩)]
            exact ho
          · rw [hol]
            have := hc.len; have := hcr.len
            simp; omega

theorem sizesOf_inv : ∀ {fs : List (Nat × TypeId)} {pl : List (Nat × Nat)}, sizesOf (TY P) fs = some pl → ∀ (w : World), (fs.mapM fun f => (do pure (f.1, ← sizeOf f.2) : Sem (Nat × Nat))).run P w = .ok pl w
  | [], pl, h, w => by simp [sizesOf] at h; subst h; rfl
  | (o, t) :: fs, pl, h, w => by
    unfold sizesOf at h
    split at h
    · rename_i i l hi hl
      injection h with h; subst h
      obtain ⟨ti, d, z, hti, _, _, hs, _⟩ := TY_inv hi
      have ih := sizesOf_inv hl w
      simp only [List.mapM_cons, Sem.run_bind, run_sizeOf hti, Result.andThen_ok, Sem.run_pure, ih, hs]
    · cases h

theorem zero_crep {t : TypeId} {i : TI} (h : TY P t = some i) : ∃ ti d z, P.info? t = some ti ∧ P.underlying t = some d ∧ i.d = tdOf d ∧ i.size = ti.size ∧ i.bytes = ti.bytes ∧ ti.zero = some z ∧ CRep w L m z.cells i.zero ∧ i.zero.length = ti.size := by
  obtain ⟨ti, d, z, hti, hu, hd, hs, hb, hz, he, hsz, h1⟩ := TY_inv h
  refine ⟨ti, d, z, hti, hu, hd, hs, hb, hz, ⟨by rw [he]; simp, fun j v p hv hp => ?_, fun j v hv => h1 v (by simpa using Array.mem_of_getElem? hv)⟩, by rw [he]; simp [hsz]⟩
  rw [he, List.getElem?_map] at hp
  rw [show z.cells.toList[j]? = z.cells[j]? by simp, hv] at hp
  simp at hp
  subst hp
  exact ofConst_rep w L m v

theorem mapM_struct (F : Array Field) {pl : List (Nat × Nat)} (h : sizesOf (TY P) (F.toList.map fun f => (f.offset, f.type)) = some pl) (w : World) :
    (F.mapM fun f => (do pure (f.offset, ← sizeOf f.type) : Sem (Nat × Nat))).run P w = .ok pl.toArray w := by
  have h1 := sizesOf_inv h w
  rw [List.mapM_map] at h1
  rw [Array.mapM_eq_mapM_toList]
  simp only [Sem.run_map]
  have : (F.toList.mapM fun f => (do pure (f.offset, ← sizeOf f.type) : Sem (Nat × Nat))).run P w = .ok pl w := h1
  rw [this]
  rfl

theorem build_sound {t : TypeId} {parts : Array (Nat × Value)} {pp : List (Nat × PVal)} {p : PVal} (hp : PRep w L m parts.toList pp) (h : (build (TY P) t pp).run = some p) : ∃ v, (Instr.build t parts).run P w = .ok v w ∧ Rep w L m v p := by
  unfold build at h
  split at h
  · rename_i fs s b z ht
    obtain ⟨ti, d, zz, hti, hu, hd, hs, hb, hz, hcr, hlen⟩ := zero_crep (P := P) (w := w) (L := L) (m := m) ht
    obtain ⟨F, rfl, rfl⟩ := td_struct hd
    split at h
    · rename_i pl hpl
      split at h
      · rename_i hall
        split at h
        · rename_i cs hf
          cases run_ret_inv h
          have hm := mapM_struct F hpl w
          obtain ⟨out, ho, hco, _, _⟩ := fill_sound hp hcr hf (fun q hq => List.all_eq_true.1 hall q hq)
          refine ⟨.agg out, ?_, .agg _ _ hco.len hco.rep⟩
          simp only [Instr.build, Sem.run_bind, run_zeroValue hti hz, run_underlying hu, Result.andThen_ok, hm]
          have e : (fun (x : Nat) => pl.toArray[x]?) = fun (x : Nat) => pl[x]? := by funext x; simp
          rw [e, ho]
          rfl
        · cases h
      · cases h
    · cases h
  · rename_i n e s b z ht
    obtain ⟨ti, d, zz, hti, hu, hd, hs, hb, hz, hcr, hlen⟩ := zero_crep (P := P) (w := w) (L := L) (m := m) ht
    have := td_arr hd
    subst this
    split at h
    · rename_i i hi
      obtain ⟨tj, _, _, htj, _, _, hs2, _⟩ := TY_inv hi
      split at h
      · rename_i hall
        split at h
        · rename_i cs hf
          cases run_ret_inv h
          rw [hs2] at hf
          obtain ⟨out, ho, hco, _, _⟩ := fill_sound hp hcr hf (fun q hq => List.all_eq_true.1 hall q hq)
          refine ⟨.agg out, ?_, .agg _ _ hco.len hco.rep⟩
          simp only [Instr.build, Sem.run_bind, run_zeroValue hti hz, run_underlying hu, Result.andThen_ok, run_sizeOf htj]
          rw [ho]
          rfl
        · cases h
      · cases h
    · cases h
  · cases h

theorem repl_get (zs : List PVal) (hz : 0 < zs.length) : ∀ (n i : Nat), i < n * zs.length → (repl n zs)[i]? = zs[i % zs.length]?
  | 0, i, h => by simp at h
  | n + 1, i, h => by
    unfold repl
    rcases Nat.lt_or_ge i zs.length with hi | hi
    · rw [List.getElem?_append_left hi, Nat.mod_eq_of_lt hi]
    · rw [List.getElem?_append_right hi, repl_get zs hz n (i - zs.length) (by rw [Nat.succ_mul] at h; omega), ← Nat.mod_eq_sub_mod hi]

theorem repl_length (zs : List PVal) : ∀ n, (repl n zs).length = n * zs.length
  | 0 => by simp [repl]
  | n + 1 => by simp [repl, repl_length zs n, Nat.succ_mul]; omega

theorem repl_mem (zs : List PVal) {p : PVal} : ∀ n, p ∈ repl n zs → p ∈ zs
  | 0, h => by simp [repl] at h
  | n + 1, h => by
    simp only [repl, List.mem_append] at h
    rcases h with h | h
    · exact h
    · exact repl_mem zs n h

theorem group_length (ag : Bool) (sz : Nat) : ∀ (n : Nat) (cs : List PVal), (group ag sz n cs).length = n
  | 0, _ => rfl
  | n + 1, cs => by simp [group, group_length ag sz n]

theorem group_get (ag : Bool) (sz : Nat) : ∀ (n : Nat) (cs : List PVal) (i : Nat), i < n → (group ag sz n cs)[i]? = some (if ag then .agg ((cs.drop (i * sz)).take sz) else (cs.drop (i * sz)).getD 0 .junk)
  | 0, _, i, h => by omega
  | n + 1, cs, 0, _ => by simp [group]
  | n + 1, cs, i + 1, h => by
    simp only [group, List.getElem?_cons_succ]
    rw [group_get ag sz n (cs.drop sz) i (by omega)]
    simp only [List.drop_drop]
    rw [show sz + i * sz = (i + 1) * sz by rw [Nat.succ_mul]; omega]

/-- A new row. -/
theorem row_rep {w : World} {L : Nat → Nat} (hn : ∀ b, w.heap.size ≤ b → L b = 0) {out : Array Value} {cs : List PVal} {e : TypeId} {ag : Bool} {sz n : Nat} (hc : CRep w L m out cs) (hlen : out.size = n * sz) (hone : ∀ q ∈ cs, q.one = true) (hNL : ∀ q ∈ cs, NL q) (hsz : ag = true ∨ sz = 1)
    (h0 : 0 < sz) (hmx : n ≤ maxLen) (extra : Array Value) (cap : Nat) (hcap : n ≤ cap) : Rep (w.alloc (.cells (out ++ extra) e)) (setL L w.heap.size (n * sz)) m (.slice (some ⟨w.heap.size, 0, none⟩) n cap) (.sl sz (group ag sz n cs)) := by
  have q := Quiet.alloc (w := w) (L := L) (.cells (out ++ extra) e) (n * sz) hn
  have hcl : cs.length = n * sz := by rw [← hc.len, hlen]
  have hget : ∀ i, i < n * sz → (w.alloc (.cells (out ++ extra) e)).cell? ⟨w.heap.size, i, none⟩ = some (out.getD i undef) := by
    intro i hi
    rw [World.cell?_alloc_at _ _ _ _ rfl, Array.getElem?_append_left (by omega)]
    simp [Array.getD_eq_getD_getElem?, show i < out.size by omega]
  refine .sl w.heap.size 0 n cap sz _ (fun i => out.getD i undef) (group_length ag sz n cs) hcap hmx (fun i x hx => ?_) (fun i hi => ?_) (fun i hi => ?_) ?_ (fun i x j p hx hp => ?_) fun i x j p hx hp => ?_
  · have hi : i < n := by have := (List.getElem?_eq_some_iff.1 hx).1; rwa [group_length] at this
    have hle : i * sz + sz ≤ n * sz := by rw [← Nat.succ_mul]; exact Nat.mul_le_mul_right _ (by omega)
    rw [group_get ag sz n cs i hi] at hx
    injection hx with hx
    subst hx
    cases ag with
    | true => simp [PVal.cells]; omega
    | false =>
      have : sz = 1 := hsz.resolve_left (by simp)
      subst this
      simp only [Bool.false_eq_true, if_false]
      have hm : (cs.drop (i * 1)).getD 0 .junk ∈ cs := by
        rw [List.getD_eq_getElem?_getD, List.getElem?_drop]
        rw [List.getElem?_eq_getElem (show i * 1 + 0 < cs.length by omega)]
        simp
      have := hone _ hm
      cases hx : (cs.drop (i * 1)).getD 0 .junk <;> first | rfl | (rw [hx] at this; cases this)
  · rw [Nat.zero_add]; exact hget i hi
  · exact hc.one i _ (by simp [Array.getD_eq_getD_getElem?, show i < out.size by omega])
  · rw [setL_same]; omega
  · have hi : i < n := by have := (List.getElem?_eq_some_iff.1 hx).1; rwa [group_length] at this
    have hle : i * sz + sz ≤ n * sz := by rw [← Nat.succ_mul]; exact Nat.mul_le_mul_right _ (by omega)
    rw [group_get ag sz n cs i hi] at hx
    injection hx with hx
    subst hx
    have hfin : j < sz → cs[i * sz + j]? = some p → Rep (w.alloc (.cells (out ++ extra) e)) (setL L w.heap.size (n * sz)) m (out.getD (i * sz + j) undef) p := by
      intro hj hp2
      refine (hc.rep (i * sz + j) _ p ?_ hp2).ext (q.ext hn m)
      simp [Array.getD_eq_getD_getElem?, show i * sz + j < out.size by omega]
    cases ag with
    | true =>
      simp only [if_true, PVal.cells, List.getElem?_take, List.getElem?_drop] at hp
      split at hp
      · rename_i hj; exact hfin hj hp
      · cases hp
    | false =>
      have : sz = 1 := hsz.resolve_left (by simp)
      subst this
      simp only [Bool.false_eq_true, if_false] at hp
      have hg : cs[i * 1]? = some ((cs.drop (i * 1)).getD 0 .junk) := by
        simp [List.getD_eq_getElem?_getD, show i < cs.length by omega]
      have h1 := hone _ (List.mem_of_getElem? hg)
      have hc1 : ((cs.drop (i * 1)).getD 0 .junk).cells = [(cs.drop (i * 1)).getD 0 .junk] := by
        cases hx : (cs.drop (i * 1)).getD 0 .junk <;> first | rfl | (rw [hx] at h1; cases h1)
      rw [hc1] at hp
      cases j with
      | zero => simp at hp; subst hp; exact hfin (by omega) (by simpa using hg)
      | succ j => simp at hp
  · have hi : i < n := by have := (List.getElem?_eq_some_iff.1 hx).1; rwa [group_length] at this
    rw [group_get ag sz n cs i hi] at hx
    injection hx with hx
    subst hx
    have hle : i * sz + sz ≤ n * sz := by rw [← Nat.succ_mul]; exact Nat.mul_le_mul_right _ (by omega)
    cases ag with
    | true =>
      simp only [if_true, PVal.cells, List.getElem?_take, List.getElem?_drop] at hp
      split at hp
      · exact hNL _ (List.mem_of_getElem? hp)
      · cases hp
    | false =>
      simp only [Bool.false_eq_true, if_false] at hp
      have hm : (cs.drop (i * sz)).getD 0 .junk ∈ cs := by
        rw [List.getD_eq_getElem?_getD, List.getElem?_drop]
        rw [List.getElem?_eq_getElem (show i * sz + 0 < cs.length by omega)]
        simp
      exact (hNL _ hm).cells j p hp

theorem fillP_nl {place : Nat → Option (Nat × Nat)} : ∀ {pp : List (Nat × PVal)} {ps qs : List PVal}, fillP place ps pp = some qs → (∀ p ∈ ps, NL p) → (∀ x ∈ pp, NL x.2) → ∀ p ∈ qs, NL p
  | [], ps, qs, h, h1, h2 => by simp [fillP] at h; subst h; exact h1
  | (i, v) :: pp, ps, qs, h, h1, h2 => by
    unfold fillP at h
    split at h
    · cases h
    · split at h
      · cases h
      · refine fillP_nl h (fun p hp => ?_) (fun x hx => h2 x (by simp [hx]))
        simp only [List.mem_append] at hp
        rcases hp with (hp | hp) | hp
        · exact h1 p (List.mem_of_mem_take hp)
        · obtain ⟨j, hj⟩ := List.mem_iff_getElem?.1 hp
          exact (h2 (i, v) (by simp)).cells j p hj
        · exact h1 p (List.mem_of_mem_drop hp)

theorem buildSl_sound {w : World} {L : Nat → Nat} (hn : ∀ b, w.heap.size ≤ b → L b = 0) {t : TypeId} {len : Nat} {parts : Array (Nat × Value)} {pp : List (Nat × PVal)} {p : PVal} (hp : PRep w L m parts.toList pp) (h : (buildSl (TY P) t len pp).run = some p) :
    ∃ (out : Array Value) (e : TypeId) (sz : Nat) (xs : List PVal), p = .sl sz xs ∧ (Instr.buildSlice t len parts).run P w = .ok (.slice (some ⟨w.heap.size, 0, none⟩) len len) (w.alloc (.cells out e)) ∧
      Rep (w.alloc (.cells out e)) (setL L w.heap.size (len * sz)) m (.slice (some ⟨w.heap.size, 0, none⟩) len len) p := by
  unfold buildSl at h
  split at h
  · rename_i e s b z ht
    obtain ⟨_, d, _, _, hu, hd, _⟩ := TY_inv ht
    rw [td_slice hd] at hu
    split at h
    · rename_i i hi
      obtain ⟨ti, d2, zz, hti, hu2, hd2, hs, hb, hz, hcr, hlen⟩ := zero_crep (P := P) (w := w) (L := L) (m := m) hi
      split at h
      · cases h
      · rename_i hcond
        simp only [Bool.or_eq_true, decide_eq_true_eq, not_or, Bool.not_eq_true', Bool.not_eq_false, beq_iff_eq] at hcond
        obtain ⟨⟨⟨⟨⟨h0, hbig⟩, hall⟩, hz4⟩, hp4⟩, hag⟩ := hcond
        split at h
        · rename_i cs hf
          cases run_ret_inv h
          have hzl : i.zero.length = i.size := by rw [hlen, hs]
          have hzs : zz.cells.size = i.size := by rw [hcr.len, hzl]
          have hcr2 : CRep w L m ((Array.range (len * i.size)).map fun k => zz.cells[k % zz.cells.size]!) (repl len i.zero) := by
            have hv : ∀ (k : Nat) (v : Value), ((Array.range (len * i.size)).map fun k => zz.cells[k % zz.cells.size]!)[k]? = some v → k < len * i.size ∧ zz.cells[k % zz.cells.size]? = some v := by
              intro k v hk
              have hlt : k < len * i.size := by
                have := (Array.getElem?_eq_some_iff.1 hk).1
                simpa using this
              have hm : k % zz.cells.size < zz.cells.size := Nat.mod_lt _ (by omega)
              refine ⟨hlt, ?_⟩
              simp [hlt] at hk
              rw [← hk, Array.getElem?_eq_getElem hm]
              simp [hm]
            refine ⟨by simp [repl_length, hzl], fun k v p hk hp => ?_, fun k v hk => hcr.one _ v (hv k v hk).2⟩
            obtain ⟨hlt, hk2⟩ := hv k v hk
            rw [repl_get _ (by omega) _ _ (by rw [hzl]; exact hlt), hzl] at hp
            rw [hzs] at hk2
            exact hcr.rep _ v p hk2 hp
          obtain ⟨out, ho, hco, ho1, hol⟩ := fill_sound hp hcr2 hf (fun q hq => List.all_eq_true.1 hall q (repl_mem _ _ hq))
          have hos : out.size = len * i.size := by rw [hco.len, hol, repl_length, hzl]
          refine ⟨out, e, i.size, _, rfl, ?_, ?_⟩
          · simp only [Instr.buildSlice, Sem.run_bind, run_underlying hu, Result.andThen_ok, run_sizeOf hti]
            rw [← hs, if_neg (show ¬ len * i.size > 2 ^ 24 by simpa using hbig)]
            rcases Nat.eq_zero_or_pos (len * i.size) with hz0 | hz0
            · rw [if_pos hz0]
              have e1 : ∀ f g : Nat → Value, (Array.range (len * i.size)).map f = (Array.range (len * i.size)).map g := by intro f g; rw [hz0]; simp
              rw [pure_bind, e1 _ (fun k => zz.cells[k % zz.cells.size]!)]
              rw [ho]; rfl
            · rw [if_neg (by omega)]
              simp only [Sem.run_bind, run_zeroValue hti hz, Result.andThen_ok, Sem.run_pure]
              rw [ho]; rfl
          · have hzN : ∀ q ∈ i.zero, NL q := by
              intro q hq
              obtain ⟨k, hk⟩ := List.mem_iff_getElem?.1 hq
              have hk2 : k < zz.cells.size := by rw [hcr.len]; exact (List.getElem?_eq_some_iff.1 hk).1
              exact (hcr.rep k zz.cells[k] q (by simp [hk2]) hk).nl 4 (List.all_eq_true.1 hz4 q hq)
            have hpN : ∀ x ∈ pp, NL x.2 := by
              intro x hx
              obtain ⟨k, hk⟩ := List.mem_iff_getElem?.1 hx
              have hk2 : k < parts.toList.length := by rw [hp.len]; exact (List.getElem?_eq_some_iff.1 hk).1
              exact (hp.at_ k parts.toList[k] x (List.getElem?_eq_getElem hk2) hk).2.nl 4 (List.all_eq_true.1 hp4 x hx)
            have := row_rep (m := m) hn (e := e) (ag := i.d.isAgg) hco hos ho1 (fillP_nl hf (fun q hq => hzN q (repl_mem _ _ hq)) hpN) hag (Nat.pos_of_ne_zero h0) (by have := Nat.le_mul_of_pos_right len (Nat.pos_of_ne_zero h0); unfold maxLen; omega) #[] len (Nat.le_refl _)
            simpa using this
        · cases h
    · cases h
  · cases h

end Go.Pi
