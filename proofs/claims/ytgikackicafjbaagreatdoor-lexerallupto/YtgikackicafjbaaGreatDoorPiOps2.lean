/- Parts, places, reads. -/
import Derived.Test.YtgikackicafjbaaGreatDoorPiStore
import Derived.Laws.BytesArg
set_option linter.unusedVariables false
set_option linter.unusedSimpArgs false
namespace Go.Pi

variable {P : Program} {w : World} {L : Nat → Nat} {m : List Nat}

theorem rep_one {v : Value} {p : PVal} (h : Rep w L m v p) (h1 : p.one = true) : v.oneCell' = true ∧ v.cells = #[v] ∧ p.cells = [p] := by
  cases h <;> first | exact ⟨rfl, rfl, rfl⟩ | cases h1

theorem rep_lies {v : Value} {p : PVal} (h : Rep w L m v p) (hl : p.lies = true) : v.cells.size = p.cells.length ∧
    ∀ (j : Nat) (c : Value) (q : PVal), v.cells[j]? = some c → p.cells[j]? = some q → Rep w L m c q ∧ c.oneCell' = true := by
  by_cases ha : ∃ cs, p = .agg cs
  · obtain ⟨cs, rfl⟩ := ha
    cases h with
    | agg vs ps hlen hh =>
      refine ⟨hlen, fun j c q hc hq => ?_⟩
      have hr := hh j c q hc hq
      have : q.one = true := by
        simp only [PVal.lies] at hl
        exact List.all_eq_true.1 hl q (List.mem_of_getElem? hq)
      exact ⟨hr, (rep_one hr this).1⟩
  · have h1 : p.one = true := by
      cases p <;> first | exact hl | exact absurd ⟨_, rfl⟩ ha
    obtain ⟨h2, h3, h4⟩ := rep_one h h1
    rw [h3, h4]
    refine ⟨rfl, fun j c q hc hq => ?_⟩
    cases j with
    | zero => simp at hc hq; subst hc; subst hq; exact ⟨h, h2⟩
    | succ j => simp at hq

theorem td_struct {d : TypeDesc} {fs : List (Nat × TypeId)} (h : TD.struct fs = tdOf d) : ∃ F : Array Field, d = .struct F ∧ fs = F.toList.map fun f => (f.offset, f.type) := by
  cases d <;> simp [tdOf] at h
  exact ⟨_, rfl, h⟩
theorem td_arr {d : TypeDesc} {n : Nat} {e : TypeId} (h : TD.arr n e = tdOf d) : d = .array n e := by
  cases d <;> simp [tdOf] at h
  obtain ⟨rfl, rfl⟩ := h; rfl
theorem td_slice {d : TypeDesc} {e : TypeId} (h : TD.slice e = tdOf d) : d = .slice e := by
  cases d <;> simp [tdOf] at h
  obtain rfl := h; rfl
theorem td_int {d : TypeDesc} {k : IntKind} (h : TD.int k = tdOf d) : d = .int k := by
  cases d <;> simp [tdOf] at h
  obtain rfl := h; rfl
theorem td_str {d : TypeDesc} (h : TD.str = tdOf d) : d = .string := by
  cases d <;> simp [tdOf] at h
  rfl

theorem run_typeInfo {t : TypeId} {i : TypeInfo} (h : P.info? t = some i) (w : World) : (typeInfo t).run P w = .ok i w := by simp [typeInfo, h]
theorem run_sizeOf {t : TypeId} {i : TypeInfo} (h : P.info? t = some i) (w : World) : (sizeOf t).run P w = .ok i.size w := by simp [sizeOf, run_typeInfo h]
theorem run_zeroValue {t : TypeId} {i : TypeInfo} {z : Value} (h : P.info? t = some i) (hz : i.zero = some z) (w : World) : (zeroValue t).run P w = .ok z w := by simp [zeroValue, run_typeInfo h, hz]
theorem run_isAgg {t : TypeId} {d : TypeDesc} (h : P.underlying t = some d) (w : World) : (isAgg t).run P w = .ok (tdOf d).isAgg w := by
  cases d <;> simp [isAgg, run_underlying h, tdOf, TD.isAgg]

theorem part_sound {t : TypeId} {vs : Array Value} {cs : List PVal} {off : Nat} {p : PVal} (hl : vs.size = cs.length) (hr : ∀ (i : Nat) (v : Value) (q : PVal), vs[i]? = some v → cs[i]? = some q → Rep w L m v q)
    (h : (part (TY P) t cs off).run = some p) : ∃ v, (Go.part t vs off).run P w = .ok v w ∧ Rep w L m v p := by
  unfold part at h
  split at h
  · rename_i i hi
    obtain ⟨ti, d, z, hti, hu, hd, hs, _⟩ := TY_inv hi
    simp only [Go.part, Sem.run_bind, run_isAgg hu, Result.andThen_ok]
    rw [hd] at h
    split at h
    · rename_i ha
      split at h
      case isFalse => cases h
      cases run_ret_inv h
      rw [if_pos ha]
      refine ⟨.agg (vs.extract off (off + ti.size)), by simp [run_sizeOf hti], .agg _ _ ?_ fun j v q hv hq => ?_⟩
      · simp [hl, hs]; omega
      · rw [Array.getElem?_extract] at hv
        split at hv
        · rw [List.getElem?_take] at hq
          split at hq
          · rw [List.getElem?_drop] at hq
            exact hr _ v q hv hq
          · cases hq
        · cases hv
    · rename_i ha
      rw [if_neg ha]
      split at h
      · rename_i hlt
        cases run_ret_inv h
        have hlt' : off < vs.size := by rw [hl]; exact hlt
        rw [Array.getElem?_eq_getElem hlt']
        exact ⟨_, rfl, hr off _ _ (Array.getElem?_eq_getElem hlt') (by simp [List.getD_eq_getElem?_getD, hlt])⟩
      · cases h
  · cases h

theorem isU8_inv {p : PVal} (h : isU8 p = true) : ∃ n, p = .int .u8 n := by
  cases p with
  | int k n => cases k <;> simp [isU8] at h; exact ⟨n, rfl⟩
  | _ => simp [isU8] at h

theorem isBytes_inv {t : TypeId} (h : isBytes (TY P) t = true) : ∃ e, P.underlying t = some (.slice e) ∧ P.underlying e = some (.int .u8) := by
  unfold isBytes at h
  split at h
  · rename_i e s b z h1
    split at h
    · rename_i s2 b2 z2 h2
      obtain ⟨ti, d, zz, _, hu, hd, _⟩ := TY_inv h1
      obtain ⟨ti2, d2, zz2, _, hu2, hd2, _⟩ := TY_inv h2
      rw [td_slice hd] at hu
      rw [td_int hd2] at hu2
      exact ⟨e, hu, hu2⟩
    · cases h
  · cases h

theorem strOfNums_data (ns : List Int) : (strOfNums ns).data.toList = ns.map fun n => UInt8.ofNat n.toNat := by
  simp [strOfNums]

theorem conv_sound {a b : TypeId} {x p : PVal} {v : Value} (hv : Rep w L m v x) (h : (conv (TY P) a b x).run = some p) : ∃ u, (convert a b v).run P w = .ok u w ∧ Rep w L m u p := by
  unfold conv at h
  split at h
  · rename_i i1 k s1 b1 z1 k2 n h1 h2
    obtain ⟨ti, d, zz, _, hu, hd, _⟩ := TY_inv h1
    obtain ⟨ti2, d2, zz2, _, hu2, hd2, _⟩ := TY_inv h2
    rw [td_int hd2] at hu2
    cases hv
    cases run_ret_inv h
    refine ⟨_, ?_, .int _ _⟩
    simp only [convert, Sem.run_bind, run_underlying hu, run_underlying hu2, Result.andThen_ok]
    rfl
  · rename_i i1 s1 b1 z1 s h1 h2
    obtain ⟨ti, d, zz, _, hu, hd, _⟩ := TY_inv h1
    obtain ⟨ti2, d2, zz2, _, hu2, hd2, _⟩ := TY_inv h2
    rw [td_str hd2] at hu2
    cases hv
    cases run_ret_inv h
    refine ⟨_, ?_, .str _⟩
    simp only [convert, Sem.run_bind, run_underlying hu, run_underlying hu2, Result.andThen_ok]
    rfl
  · rename_i i1 s1 b1 z1 sz xs h1 h2
    obtain ⟨ti2, d2, zz2, _, hu2, hd2, _⟩ := TY_inv h2
    rw [td_str hd2] at hu2
    split at h
    · rename_i hb
      obtain ⟨e, hs, he⟩ := isBytes_inv hb
      obtain ⟨hall, h⟩ := tree_need h
      cases run_ret_inv h
      have emp : Rep w L m (.string ByteArray.empty) (.str []) := .str ByteArray.empty
      cases hv with
      | sl0 A c sz =>
        cases A with
        | none => exact ⟨_, run_convert_bytes_nil w a e hs he 0 c b hu2, emp⟩
        | some ad =>
          have hrun := run_convert_bytes_arg (P := P) w a e hs he ad.block ad.off 0 c [] rfl (fun i hi => by omega) b hu2
          refine ⟨.string ByteArray.empty, ?_, emp⟩
          rw [run_convert_bytes_string w a b e _ 0 c hs he hu2]
          have : (loadCells ad 0).run P w = .ok (([] : List Int).map (Value.int .u8)).toArray w := by simp [loadCells, loadCellsFrom]
          rw [run_bytesToString w ad 0 c [] this]
          rfl
      | sl bb o n c sz xs cv hn hc hm hsz hcell hone hL hh hN =>
        have h1c : ∀ (i : Nat) (y : PVal), xs[i]? = some y → ∃ k, y = .int .u8 k := fun i y hy => isU8_inv (List.all_eq_true.1 hall y (List.mem_of_getElem? hy))
        let ns : List Int := xs.map fun | .int _ k => k | _ => 0
        have hsz1 : n = 0 ∨ sz = 1 := by
          rcases Nat.eq_zero_or_pos n with h0 | h0
          · exact .inl h0
          · obtain ⟨y, hy⟩ : ∃ y, xs[0]? = some y := ⟨xs[0], List.getElem?_eq_getElem (by omega)⟩
            obtain ⟨k, rfl⟩ := h1c 0 y hy
            exact .inr (hsz 0 _ hy).symm
        have hcells : ∀ i, i < n → w.cell? ⟨bb, o + i, none⟩ = some (.int .u8 (ns.getD i 0)) := by
          intro i hi
          have hs1 : sz = 1 := by omega
          subst hs1
          obtain ⟨y, hy⟩ : ∃ y, xs[i]? = some y := ⟨xs[i], List.getElem?_eq_getElem (by omega)⟩
          obtain ⟨k, rfl⟩ := h1c i y hy
          have hr := hh i _ 0 (.int .u8 k) hy rfl
          have hc2 := hcell i (by omega)
          simp only [Nat.mul_one, Nat.add_zero] at hr
          rw [hc2]
          have hcv : cv i = .int .u8 k := by
            revert hr; generalize cv i = u; intro hr; cases hr; rfl
          rw [hcv]
          simp [ns, List.getD_eq_getElem?_getD, hy]
        have hrun := run_convert_bytes_arg (P := P) w a e hs he bb o n c ns (by simp [ns, hn]) hcells b hu2
        refine ⟨_, hrun, ?_⟩
        have : (strOfNums ns).data.toList = xs.map byteOf := by
          rw [strOfNums_data]
          simp only [ns, List.map_map]
          apply List.map_congr_left
          intro y hy
          obtain ⟨i, hi⟩ := List.mem_iff_getElem?.1 hy
          obtain ⟨k, rfl⟩ := h1c i y hi
          rfl
        rw [← this]
        exact .str _
    · cases h
  · cases h

theorem structFields {t : TypeId} {fs : List (Nat × TypeId)} {s b : Nat} {z : List PVal} (h : TY P t = some { d := .struct fs, size := s, bytes := b, zero := z }) :
    ∃ F : Array Field, P.underlying t = some (.struct F) ∧ fs = F.toList.map fun f => (f.offset, f.type) := by
  obtain ⟨ti, d, zz, _, hu, hd, _⟩ := TY_inv h
  obtain ⟨F, rfl, hf⟩ := td_struct hd
  exact ⟨F, hu, hf⟩

theorem field_at {F : Array Field} {f fo : Nat} {ft : TypeId} (h : (F.toList.map fun f => (f.offset, f.type))[f]? = some (fo, ft)) : ∃ fl, F[f]? = some fl ∧ fl.offset = fo ∧ fl.type = ft := by
  rw [List.getElem?_map] at h
  cases hf : F.toList[f]? with
  | none => rw [hf] at h; cases h
  | some fl =>
    rw [hf] at h
    simp at h
    exact ⟨fl, by simpa using hf, h.1, h.2⟩

theorem field_sound {t : TypeId} {f : Nat} {fs : List (Nat × TypeId)} {s b : Nat} {z : List PVal} {v : Value} {cs : List PVal} {fo : Nat} {ft : TypeId} {p : PVal} (ht : TY P t = some { d := .struct fs, size := s, bytes := b, zero := z })
    (hv : Rep w L m v (.agg cs)) (hf : fs[f]? = some (fo, ft)) (h : (part (TY P) ft cs fo).run = some p) : ∃ u, (Instr.field t v f).run P w = .ok u w ∧ Rep w L m u p := by
  obtain ⟨F, hu, rfl⟩ := structFields ht
  obtain ⟨fl, hfl, rfl, rfl⟩ := field_at hf
  cases hv with
  | agg vs ps hl hr =>
    obtain ⟨u, hrun, hru⟩ := part_sound hl hr h
    refine ⟨u, ?_, hru⟩
    simp only [Instr.field, Sem.run_bind, run_underlying hu, Result.andThen_ok, hfl, asAgg, Sem.run_pure]
    exact hrun

/-- Where the cells of a part lie. -/
theorem part_cells {t : TypeId} {i : TI} {cs : List PVal} {off : Nat} {p : PVal} (hi : TY P t = some i) (h : (part (TY P) t cs off).run = some p) :
    (i.d.isAgg = true ∧ off + i.size ≤ cs.length ∧ p = .agg ((cs.drop off).take i.size)) ∨ (i.d.isAgg = false ∧ off < cs.length ∧ p = cs.getD off .junk) := by
  unfold part at h
  rw [hi] at h
  simp only at h
  split at h
  · rename_i ha
    split at h
    · rename_i hl
      exact .inl ⟨ha, hl, (run_ret_inv h).symm⟩
    · cases h
  · rename_i ha
    split at h
    · rename_i hl
      exact .inr ⟨by simpa using ha, hl, (run_ret_inv h).symm⟩
    · cases h

theorem rep_ref_inv {v : Value} {x : PVal} (h : Rep w L m v (.ref x)) : ∃ (b o : Nat) (cv : Nat → Value), v = .pointer (some ⟨b, o, none⟩) ∧ (∀ q, q < x.cells.length → w.cell? ⟨b, o + q, none⟩ = some (cv q)) ∧ (∀ q, q < x.cells.length → (cv q).oneCell' = true) ∧
    o + x.cells.length ≤ L b ∧ ∀ (j : Nat) (p : PVal), x.cells[j]? = some p → Rep w L m (cv j) p ∧ NL p := by
  cases h with
  | ref b o x cv hcell hone hL hh hN => exact ⟨b, o, cv, rfl, hcell, hone, hL, fun j p hp => ⟨hh j p hp, hN j p hp⟩⟩

/-- A part of cells that are never written again. -/
theorem ref_part {t : TypeId} {i : TI} {b o : Nat} {cs : List PVal} {off : Nat} {p : PVal} (hv : Rep w L m (.pointer (some ⟨b, o, none⟩)) (.ref (.agg cs))) (hi : TY P t = some i) (hp1 : i.d.isAgg = false → p.one = true)
    (h : (part (TY P) t cs off).run = some p) : Rep w L m (.pointer (some ⟨b, o + off, none⟩)) (.ref p) := by
  obtain ⟨b', o', cv, he, hcell, hone, hL, hh⟩ := rep_ref_inv hv
  simp only [Value.pointer.injEq, Option.some.injEq, Addr.mk.injEq, and_true] at he
  obtain ⟨rfl, rfl⟩ := he
  simp only [PVal.cells] at hcell hone hL hh
  rcases part_cells hi h with ⟨ha, hle, rfl⟩ | ⟨ha, hlt, rfl⟩
  · have hlen : ((cs.drop off).take i.size).length = i.size := by simp; omega
    refine .ref b (o + off) _ (fun q => cv (off + q)) (fun q hq => ?_) (fun q hq => ?_) ?_ (fun j p hj => ?_) fun j p hj => ?_
    · simp only [PVal.cells] at hq
      rw [Nat.add_assoc]
      exact hcell (off + q) (by omega)
    · simp only [PVal.cells] at hq
      exact hone (off + q) (by omega)
    · simp only [PVal.cells]; omega
    · simp only [PVal.cells, List.getElem?_take, List.getElem?_drop] at hj
      split at hj
      · exact (hh (off + j) p hj).1
      · cases hj
    · simp only [PVal.cells, List.getElem?_take, List.getElem?_drop] at hj
      split at hj
      · exact (hh (off + j) p hj).2
      · cases hj
  · have hp := hp1 ha
    have hc : (cs.getD off .junk).cells = [cs.getD off .junk] := by
      cases hx : cs.getD off .junk <;> first | rfl | (rw [hx] at hp; cases hp)
    have hg : cs[off]? = some (cs.getD off .junk) := by simp [List.getD_eq_getElem?_getD, hlt]
    refine .ref b (o + off) _ (fun q => cv (off + q)) (fun q hq => ?_) (fun q hq => ?_) ?_ (fun j p hj => ?_) fun j p hj => ?_
    · rw [Nat.add_assoc]
      rw [hc] at hq
      simp at hq
      exact hcell (off + q) (by omega)
    · rw [hc] at hq
      simp at hq
      exact hone (off + q) (by omega)
    · rw [hc]; simp; omega
    · rw [hc] at hj
      cases j with
      | zero => simp at hj; subst hj; exact (hh off _ hg).1
      | succ j => simp at hj
    · rw [hc] at hj
      cases j with
      | zero => simp at hj; subst hj; exact (hh off _ hg).2
      | succ j => simp at hj

end Go.Pi
set_option linter.unusedVariables false
set_option linter.unusedSimpArgs false
namespace Go.Pi

variable {P : Program} {w : World} {L : Nat → Nat} {m : List Nat}

theorem addr_add (b o n : Nat) : (⟨b, o, none⟩ : Addr).add n = ⟨b, o + n, none⟩ := by
  unfold Addr.add
  split
  · rename_i h; subst h; rfl
  · rfl

theorem fieldAt_run {t f fo : Nat} {ft : TypeId} {fs : List (Nat × TypeId)} {s b : Nat} {z : List PVal} {fi : TI} (ht : TY P t = some { d := .struct fs, size := s, bytes := b, zero := z }) (hf : fs[f]? = some (fo, ft)) (hfi : TY P ft = some fi) (hsz : fi.size ≠ 0)
    (bb o : Nat) : (Instr.fieldAt t (.pointer (some ⟨bb, o, none⟩)) f).run P w = .ok (.pointer (some ⟨bb, o + fo, none⟩)) w := by
  obtain ⟨F, hu, rfl⟩ := structFields ht
  obtain ⟨fl, hfl, rfl, rfl⟩ := field_at hf
  obtain ⟨ti, d, zz, hti, _, _, hs, _⟩ := TY_inv hfi
  have hne : ¬ ti.size = 0 := by rw [← hs]; exact hsz
  simp only [Instr.fieldAt, Sem.run_bind, run_underlying hu, Result.andThen_ok, hfl, Instr.sureAddr, Sem.run_pure, fieldPlace, run_sizeOf hti, hne, if_false]
  rw [addr_add]

theorem refPart_inv {t : TypeId} {cs : List PVal} {off : Nat} {r : PVal} (h : (refPart (TY P) t cs off).run = some r) : ∃ i p, TY P t = some i ∧ (part (TY P) t cs off).run = some p ∧ r = .ref p ∧ (i.d.isAgg = false → p.one = true) := by
  unfold refPart at h
  obtain ⟨p, hp, h⟩ := tree_bind_some h
  split at h
  · rename_i i hi
    split at h
    · rename_i hc
      exact ⟨i, p, hi, hp, (run_ret_inv h).symm, fun ha => by rw [ha] at hc; simpa using hc⟩
    · cases h
  · cases h

theorem indexSl_all {t e : TypeId} {ti : TI} {s b sz : Nat} {z xs : List PVal} {k : IntKind} {n : Int} {v : Value} (ht : TY P t = some { d := .slice e, size := s, bytes := b, zero := z }) (he : TY P e = some ti) (hsz : ti.size = sz)
    (hv : Rep w L m v (.sl sz xs)) (h0 : 0 ≤ n) (h1 : n < xs.length) : ∃ u, (∀ w' : World, (Instr.indexAt t v (.int k n)).run P w' = .ok u w') ∧ Rep w L m u (.ref (xs.getD n.toNat .junk)) := by
  obtain ⟨_, d, _, _, hu, hd, _⟩ := TY_inv ht
  rw [td_slice hd] at hu
  obtain ⟨tj, _, _, htj, _, _, hs, _⟩ := TY_inv he
  cases hv with
  | sl0 A c _ => simp at h1; omega
  | sl bb o n' c _ _ cv hn hc hm hl hcell hone hL hh hN =>
    obtain ⟨q, rfl⟩ : ∃ q : Nat, n = q := ⟨n.toNat, by omega⟩
    have hq : q < xs.length := by omega
    refine ⟨.pointer (some ⟨bb, o + q * sz, none⟩), ?_, ?_⟩
    · intro w'
      have hlt : (0 : Int) ≤ (q : Int) ∧ (q : Int) < ((n' : Nat) : Int) := ⟨by omega, by omega⟩
      simp only [Instr.indexAt, asIntOf, Sem.run_bind, Sem.run_pure, run_underlying hu, Result.andThen_ok]
      rw [if_pos hlt]
      simp only [Sem.run_bind, run_sizeOf htj, Result.andThen_ok, Sem.run_pure, Int.toNat_natCast]
      rw [addr_add, ← hs, hsz]
    · have hx : xs[q]? = some (xs.getD q .junk) := by simp [List.getD_eq_getElem?_getD, hq]
      have hle : q * sz + sz ≤ n' * sz := by rw [← Nat.succ_mul]; exact Nat.mul_le_mul_right _ (by omega)
      have hlen := hl q _ hx
      simp only [Int.toNat_natCast]
      refine .ref bb (o + q * sz) _ (fun j => cv (q * sz + j)) (fun j hj => ?_) (fun j hj => ?_) ?_ (fun j p hp => hh q _ j p hx hp) fun j p hp => hN q _ j p hx hp
      · rw [Nat.add_assoc]; exact hcell _ (by omega)
      · exact hone _ (by omega)
      · rw [hlen]; omega

theorem indexSl_run {t e : TypeId} {ti : TI} {s b sz : Nat} {z xs : List PVal} {k : IntKind} {n : Int} {v : Value} (ht : TY P t = some { d := .slice e, size := s, bytes := b, zero := z }) (he : TY P e = some ti) (hsz : ti.size = sz)
    (hv : Rep w L m v (.sl sz xs)) (h0 : 0 ≤ n) (h1 : n < xs.length) : ∃ u, (Instr.indexAt t v (.int k n)).run P w = .ok u w ∧ Rep w L m u (.ref (xs.getD n.toNat .junk)) :=
  let ⟨u, h, hr⟩ := indexSl_all (k := k) ht he hsz hv h0 h1
  ⟨u, h w, hr⟩

theorem indexArr_run {t e : TypeId} {len : Nat} {ti : TI} {s b : Nat} {z : List PVal} {k : IntKind} {n : Int} (ht : TY P t = some { d := .arr len e, size := s, bytes := b, zero := z }) (he : TY P e = some ti) (h0 : 0 ≤ n) (h1 : n < len) (bb o : Nat) :
    (Instr.indexAt t (.pointer (some ⟨bb, o, none⟩)) (.int k n)).run P w = .ok (.pointer (some ⟨bb, o + n.toNat * ti.size, none⟩)) w := by
  obtain ⟨_, d, _, _, hu, hd, _⟩ := TY_inv ht
  rw [td_arr hd] at hu
  obtain ⟨tj, _, _, htj, _, _, hs, _⟩ := TY_inv he
  simp only [Instr.indexAt, asIntOf, Sem.run_bind, Sem.run_pure, run_underlying hu, Result.andThen_ok, Instr.sureAddr]
  rw [if_pos ⟨h0, h1⟩]
  simp only [Sem.run_bind, run_sizeOf htj, Result.andThen_ok, Sem.run_pure]
  rw [addr_add, hs]

theorem indexStr_run {t : TypeId} {s b : Nat} {z : List PVal} {k : IntKind} {n : Int} (ht : TY P t = some { d := .str, size := s, bytes := b, zero := z }) (bs : ByteArray) (h0 : 0 ≤ n) (h1 : n < bs.data.toList.length) :
    (Instr.index t (.string bs) (.int k n)).run P w = .ok (.int .u8 ((bs.data.toList.getD n.toNat 0).toNat : Int)) w := by
  obtain ⟨_, d, _, _, hu, hd, _⟩ := TY_inv ht
  rw [td_str hd] at hu
  simp only [Array.length_toList] at h1
  have hlt : n.toNat < bs.size := by show n.toNat < bs.data.size; omega
  have hg : bs[n.toNat]? = some (bs.data.toList.getD n.toNat 0) := by
    have h2 : n.toNat < bs.data.size := hlt
    have : bs[n.toNat]? = some (bs[n.toNat]'hlt) := by simp [getElem?_pos, hlt]
    rw [this]
    simp only [List.getD_eq_getElem?_getD, Array.getElem?_toList, Array.getElem?_eq_getElem h2]
    rfl
  simp only [Instr.index, asIntOf, Sem.run_bind, Sem.run_pure, run_underlying hu, Result.andThen_ok, h0, if_true, hg]

theorem indexAgg_run {t e : TypeId} {len : Nat} {ti : TI} {s b : Nat} {z cs : List PVal} {k : IntKind} {n : Int} {v : Value} {p : PVal} (ht : TY P t = some { d := .arr len e, size := s, bytes := b, zero := z }) (he : TY P e = some ti) (hv : Rep w L m v (.agg cs))
    (h0 : 0 ≤ n) (h1 : n < len) (h : (part (TY P) e cs (n.toNat * ti.size)).run = some p) : ∃ u, (Instr.index t v (.int k n)).run P w = .ok u w ∧ Rep w L m u p := by
  obtain ⟨_, d, _, _, hu, hd, _⟩ := TY_inv ht
  rw [td_arr hd] at hu
  obtain ⟨tj, _, _, htj, _, _, hs, _⟩ := TY_inv he
  cases hv with
  | agg vs ps hl hr =>
    rw [hs] at h
    obtain ⟨u, hrun, hru⟩ := part_sound (P := P) (w := w) hl hr h
    refine ⟨u, ?_, hru⟩
    simp only [Instr.index, asIntOf, Sem.run_bind, Sem.run_pure, run_underlying hu, Result.andThen_ok]
    rw [if_pos ⟨h0, h1⟩]
    simp only [Sem.run_bind, run_sizeOf htj, Result.andThen_ok]
    exact hrun

theorem loadRef_all {t : TypeId} {x p : PVal} {v : Value} {h : List Ob} (hv : Rep w L m v (.ref x)) (hl : (loadP (TY P) t h (.ref x)).run = some p) : ∃ u, (∀ w' : World, (∀ b, b < w.heap.size → w'.heap[b]? = w.heap[b]?) → (Instr.loadAt t v).run P w' = .ok u w') ∧ Rep w L m u p := by
  obtain ⟨b, o, cv, rfl, hcell, hone, hL, hh⟩ := rep_ref_inv hv
  have hcellA : ∀ w' : World, (∀ b, b < w.heap.size → w'.heap[b]? = w.heap[b]?) → ∀ q, q < x.cells.length → w'.cell? ⟨b, o + q, none⟩ = some (cv q) := fun w' hS q hq => by
    rw [World.cell?_of_block (w := w) (hS b (cell_lt (hcell q hq)))]; exact hcell q hq
  unfold loadP at hl
  split at hl
  · rename_i y hy
    injection hy with hy
    subst hy
    split at hl
    · rename_i i hi
      obtain ⟨ti, d, z, hti, hu, hd, hs, _⟩ := TY_inv hi
      rw [hd] at hl
      split at hl
      · rename_i ha
        split at hl
        · rename_i cs
          split at hl
          · rename_i hlen
            cases run_ret_inv hl
            simp only [PVal.cells] at hcell hone hh hcellA
            have hrun : ∀ w' : World, (∀ b, b < w.heap.size → w'.heap[b]? = w.heap[b]?) → (loadCells ⟨b, o, none⟩ ti.size).run P w' = .ok ((List.range ti.size).map cv).toArray w' := fun w' hS =>
              run_loadCells w' ⟨b, o, none⟩ ti.size cv fun j hj => by rw [addr_add]; exact hcellA w' hS j (by omega)
            refine ⟨.agg ((List.range ti.size).map cv).toArray, fun w' hS => by
              simp only [Instr.loadAt, Instr.sureAddr, Sem.run_bind, Sem.run_pure, Result.andThen_ok, loadVar, run_isAgg hu]
              rw [if_pos ha]
              simp [run_sizeOf hti, hrun w' hS], .agg _ _ (by simp; omega) fun j u q hu' hq => ?_⟩
            have hj : j < ti.size := by
              have := (Array.getElem?_eq_some_iff.1 hu').1
              simpa using this
            simp [hj] at hu'
            subst hu'
            exact (hh j q hq).1
          · cases hl
        · cases hl
      · rename_i ha
        split at hl
        · rename_i h1
          cases run_ret_inv hl
          have hc : x.cells = [x] := by cases x <;> first | rfl | cases h1
          exact ⟨cv 0, fun w' hS => by
            have hcl := hcellA w' hS 0 (by rw [hc]; simp)
            simp only [Instr.loadAt, Instr.sureAddr, Sem.run_bind, Sem.run_pure, Result.andThen_ok, loadVar, run_isAgg hu]
            rw [if_neg ha]
            simp only [run_load]; rw [show (⟨b, o, none⟩ : Addr) = ⟨b, o + 0, none⟩ from rfl, hcl], (hh 0 x (by rw [hc]; rfl)).1⟩
        · cases hl
    · cases hl
  · rename_i hy; cases hy
  · rename_i h1 h2; exact absurd rfl (h1 x)

theorem loadH_all {t : TypeId} {id off : Nat} {p : PVal} {v : Value} {h : List Ob} (hv : Rep w L m v (.loc id off)) (hr : HRel w L m h) (hl : (loadH (TY P) t h id off).run = some p) : ∃ u, (∀ w' : World, (∀ b, b < w.heap.size → w'.heap[b]? = w.heap[b]?) → (Instr.loadAt t v).run P w' = .ok u w') ∧ Rep w L m u p := by
  cases hv with
  | loc _ _ b hb =>
    unfold loadH at hl
    split at hl
    · rename_i i ob hi hob
      split at hl
      · rename_i hle
        obtain ⟨ti, d, z, hti, hu, hd, hs, _⟩ := TY_inv hi
        obtain ⟨hL, cur, hp, hlen, h1, hc⟩ := hr.obj id ob b hob hb
        have hcell : ∀ w' : World, (∀ b, b < w.heap.size → w'.heap[b]? = w.heap[b]?) → ∀ j, j < cur.size → w'.cell? ⟨b, j, none⟩ = some (cur.getD j undef) := by
          intro w' hS j hj
          rw [cell_of_row w' b j cur ob.t (0, 0) (by rw [hS b (plain_lt hp)]; exact hp)]
          simp [Array.getD_eq_getD_getElem?, hj]
        rcases part_cells hi hl with ⟨ha, hle2, rfl⟩ | ⟨ha, hlt, rfl⟩
        · rw [hd] at ha
          have hrun : ∀ w' : World, (∀ b, b < w.heap.size → w'.heap[b]? = w.heap[b]?) → (loadCells ⟨b, off, none⟩ ti.size).run P w' = .ok ((List.range ti.size).map fun j => cur.getD (off + j) undef).toArray w' := fun w' hS =>
            run_loadCells w' ⟨b, off, none⟩ ti.size _ fun j hj => by rw [addr_add]; exact hcell w' hS _ (by omega)
          refine ⟨.agg ((List.range ti.size).map fun j => cur.getD (off + j) undef).toArray, fun w' hS => by
            simp only [Instr.loadAt, Instr.sureAddr, Sem.run_bind, Sem.run_pure, Result.andThen_ok, loadVar, run_isAgg hu]
            rw [if_pos ha]
            simp [run_sizeOf hti, hrun w' hS], .agg _ _ (by simp; omega) fun j u q hu' hq => ?_⟩
          have hj : j < ti.size := by
            have := (Array.getElem?_eq_some_iff.1 hu').1
            simpa using this
          have hj2 : off + j < cur.size := by omega
          simp [hj] at hu'
          subst hu'
          rw [List.getElem?_take, List.getElem?_drop] at hq
          split at hq
          · exact hc (off + j) _ q (by simp [hj2]) hq
          · cases hq
        · rw [hd] at ha
          have hlt2 : off < cur.size := by omega
          exact ⟨cur.getD off undef, fun w' hS => by
            simp only [Instr.loadAt, Instr.sureAddr, Sem.run_bind, Sem.run_pure, Result.andThen_ok, loadVar, run_isAgg hu]
            rw [if_neg (by simp [ha])]
            simp only [run_load]; rw [hcell w' hS off hlt2], hc off _ _ (by simp [Array.getD_eq_getD_getElem?, hlt2]) (by simp [List.getD_eq_getElem?_getD, hlt])⟩
      · cases hl
    · cases hl

theorem loadRef_run {t : TypeId} {x p : PVal} {v : Value} {h : List Ob} (hv : Rep w L m v (.ref x)) (hl : (loadP (TY P) t h (.ref x)).run = some p) : ∃ u, (Instr.loadAt t v).run P w = .ok u w ∧ Rep w L m u p :=
  let ⟨u, h, hr⟩ := loadRef_all hv hl
  ⟨u, h w (fun _ _ => rfl), hr⟩

theorem loadH_run {t : TypeId} {id off : Nat} {p : PVal} {v : Value} {h : List Ob} (hv : Rep w L m v (.loc id off)) (hr : HRel w L m h) (hl : (loadH (TY P) t h id off).run = some p) : ∃ u, (Instr.loadAt t v).run P w = .ok u w ∧ Rep w L m u p :=
  let ⟨u, h, hr⟩ := loadH_all hv hr hl
  ⟨u, h w (fun _ _ => rfl), hr⟩

end Go.Pi
set_option linter.unusedVariables false
set_option linter.unusedSimpArgs false
namespace Go.Pi

variable {P : Program} {w : World} {L : Nat → Nat} {m : List Nat}

/-- An operand that may be left out. -/
inductive ORep (w : World) (L : Nat → Nat) (m : List Nat) : Option Value → Option PVal → Prop
  | none : ORep w L m none none
  | some {v : Value} {p : PVal} (h : Rep w L m v p) : ORep w L m (some v) (some p)

theorem optInt_inv {o : Option Value} {p : Option PVal} {d l : Int} (h : ORep w L m o p) (hl : optInt p d = some l) : (o = none ∧ p = none ∧ l = d) ∨ ∃ k, o = some (.int k l) ∧ p.isSome = true := by
  cases h with
  | none => exact .inl ⟨rfl, rfl, (Option.some.inj hl).symm⟩
  | some h =>
    rename_i v p
    cases p <;> simp [optInt] at hl
    subst hl
    cases h
    exact .inr ⟨_, rfl, rfl⟩

theorem sliceBound_run {k : IntKind} {l : Int} {y : Nat} {code : BoundsCode} (h0 : 0 ≤ l) (h1 : l ≤ y) : (Instr.sliceBound (.int k l) y code).run P w = .ok l.toNat w := by
  simp [Instr.sliceBound, asIntOf, h0, h1]

theorem sliceBounds_run {isS : Bool} {len cap : Nat} {lo hi : Option Value} {plo phi : Option PVal} {l h : Int} (hlo : ORep w L m lo plo) (hhi : ORep w L m hi phi) (el : optInt plo 0 = some l) (eh : optInt phi len = some h)
    (h0 : 0 ≤ h) (h1 : h ≤ len) (hc : len ≤ cap) (l0 : 0 ≤ l) (l1 : l ≤ h) : (Instr.sliceBounds isS len cap lo hi none).run P w = .ok (l.toNat, h.toNat, cap) w := by
  have b1 : (0 : Int) ≤ h ∧ h ≤ (cap : Int) := ⟨h0, by omega⟩
  rcases optInt_inv hlo el with ⟨rfl, _, rfl⟩ | ⟨k1, rfl, _⟩ <;> rcases optInt_inv hhi eh with ⟨rfl, _, rfl⟩ | ⟨k2, rfl, _⟩
  · simp [Instr.sliceBounds]
  · simp [Instr.sliceBounds, sliceBound_run b1.1 b1.2]
  · simp [Instr.sliceBounds, sliceBound_run (k := k1) l0 l1]
  · have l2 : l ≤ ((h.toNat : Nat) : Int) := by omega
    simp [Instr.sliceBounds, sliceBound_run b1.1 b1.2, sliceBound_run (k := k1) l0 l2]

theorem sliceBounds3_run {isS : Bool} {len cap : Nat} {lo hi : Option Value} {plo phi : Option PVal} {k : IntKind} {l h mx : Int} (hlo : ORep w L m lo plo) (hhi : ORep w L m hi phi) (el : optInt plo 0 = some l) (eh : optInt phi len = some h) (hs : phi.isSome = true)
    (h0 : 0 ≤ h) (h1 : h ≤ len) (hc : len ≤ cap) (l0 : 0 ≤ l) (l1 : l ≤ h) (hm : mx = h) : (Instr.sliceBounds isS len cap lo hi (some (.int k mx))).run P w = .ok (l.toNat, h.toNat, h.toNat) w := by
  subst hm
  have b1 : (0 : Int) ≤ mx ∧ mx ≤ (cap : Int) := ⟨h0, by omega⟩
  have b2 : mx ≤ ((mx.toNat : Nat) : Int) := by omega
  have b3 : l ≤ ((mx.toNat : Nat) : Int) := by omega
  rcases optInt_inv hhi eh with ⟨rfl, e, rfl⟩ | ⟨k2, rfl, _⟩
  · rw [e] at hs; cases hs
  · rcases optInt_inv hlo el with ⟨rfl, _, rfl⟩ | ⟨k1, rfl, _⟩
    · simp [Instr.sliceBounds, sliceBound_run b1.1 b1.2, sliceBound_run h0 b2]
    · simp [Instr.sliceBounds, sliceBound_run b1.1 b1.2, sliceBound_run h0 b2, sliceBound_run (k := k1) l0 b3]

theorem extract_data (s : ByteArray) (l h : Nat) : (s.extract l h).data.toList = (s.data.toList.take h).drop l := by
  have : (s.extract l h).data.toList = (s.data.toList.take (l + (h - l))).drop l := by simp [List.take_drop, ByteArray.data_extract]
  rw [this]
  rcases Nat.le_total l h with hl | hl
  · rw [Nat.add_sub_cancel' hl]
  · rw [List.drop_eq_nil_of_le (by simp; omega), List.drop_eq_nil_of_le (by simp; omega)]

/-- What is cut out of a slice. -/
theorem cut_rep {A : Option Addr} {n c sz : Nat} {xs : List PVal} {l h mx : Nat} (hv : Rep w L m (.slice A n c) (.sl sz xs)) (hn : h ≤ n) (hl : l ≤ h) (hm : h ≤ mx) (hmc : mx ≤ c ∨ xs = []) :
    Rep w L m (.slice (if mx = l then A else A.map (·.add (l * sz))) (h - l) (mx - l)) (.sl sz ((xs.take h).drop l)) := by
  cases hv with
  | sl0 =>
    have : h - l = 0 := by omega
    rw [this]
    simp
    exact .sl0 _ _ _
  | sl b o _ _ _ _ cv hn' hc hmx hsz hcell hone hL hh hN =>
    rcases Nat.eq_or_lt_of_le hl with rfl | hlt
    · have e : (xs.take l).drop l = [] := by simp
      rw [e, Nat.sub_self]
      exact .sl0 _ _ _
    · have hne : ¬ mx = l := by omega
      have hlen : ((xs.take h).drop l).length = h - l := by simp; omega
      rw [if_neg hne]
      simp only [Option.map_some, addr_add]
      have hmc' : mx ≤ c := by
        rcases hmc with h1 | h1
        · exact h1
        · rw [h1] at hn'; simp at hn'; omega
      have hmul : l * sz + (h - l) * sz ≤ n * sz := by rw [← Nat.add_mul]; exact Nat.mul_le_mul_right _ (by omega)
      have hget : ∀ (i : Nat) (x : PVal), ((xs.take h).drop l)[i]? = some x → xs[l + i]? = some x := by
        intro i x hx
        rw [List.getElem?_drop, List.getElem?_take] at hx
        split at hx
        · exact hx
        · cases hx
      refine .sl b (o + l * sz) (h - l) (mx - l) sz _ (fun q => cv (l * sz + q)) hlen (by omega) (by omega) (fun i x hx => hsz _ x (hget i x hx)) (fun q hq => ?_) (fun q hq => ?_) (by omega) (fun i x j p hx hp => ?_) fun i x j p hx hp => hN (l + i) x j p (hget i x hx) hp
      · rw [Nat.add_assoc]; exact hcell _ (by omega)
      · exact hone _ (by omega)
      · have := hh (l + i) x j p (hget i x hx) hp
        rw [Nat.add_mul, Nat.add_assoc] at this
        exact this

theorem slice_sound {t : TypeId} {v : Value} {x p : PVal} {lo hi mx : Option Value} {plo phi pmx : Option PVal} {e : Bool} (hv : Rep w L m v x) (hlo : ORep w L m lo plo) (hhi : ORep w L m hi phi) (hmx : ORep w L m mx pmx)
    (h : (slice (TY P) t x plo phi pmx).run = some (p, e)) : ∃ u, (Instr.sliceAt t v lo hi mx).run P w = .ok u w ∧ Rep w L m u p ∧ (e = true → (∃ sz xs, p = .sl sz xs) ∧ ∀ a n c, u = .slice a n c → n = c) := by
  unfold slice at h
  split at h
  · rename_i s1 b1 z1 s ht
    obtain ⟨_, d, _, _, hu, hd, _⟩ := TY_inv ht
    rw [td_str hd] at hu
    cases hv with
    | str bs =>
      split at h
      · rename_i l hh el eh
        obtain ⟨c1, h⟩ := tree_need h
        obtain ⟨c2, h⟩ := tree_need h
        simp only [Bool.and_eq_true, decide_eq_true_eq] at c1 c2
        have hp := run_ret_inv h
        simp only [Prod.mk.injEq] at hp
        obtain ⟨rfl, rfl⟩ := hp
        cases hmx
        have hlen : bs.data.toList.length = bs.size := by simp
        rw [hlen] at eh c1
        have hb := sliceBounds_run (P := P) (w := w) (isS := false) (cap := bs.size) hlo hhi el eh c1.1 c1.2 (Nat.le_refl _) c2.1 c2.2
        refine ⟨.string (bs.extract l.toNat hh.toNat), ?_, ?_, fun h => by cases h⟩
        · simp only [Instr.sliceAt, Sem.run_bind, run_underlying hu, Result.andThen_ok, Instr.slice, Option.isSome_none, Bool.false_eq_true, if_false, hb]
          rfl
        · rw [← extract_data]; exact .str _
      · cases h
  · rename_i e1 s1 b1 z1 sz xs ht
    obtain ⟨_, d, _, _, hu, hd, _⟩ := TY_inv ht
    rw [td_slice hd] at hu
    split at h
    · rename_i ti hti
      obtain ⟨tj, _, _, htj, _, _, hs, _⟩ := TY_inv hti
      split at h
      · rename_i hsz
        obtain ⟨A, n, c, rfl⟩ : ∃ A n c, v = .slice A n c := by cases hv <;> exact ⟨_, _, _, rfl⟩
        have hlen : xs.length = n ∧ n ≤ c := by cases hv <;> simp_all
        split at h
        · rename_i l hh el eh
          obtain ⟨c1, h⟩ := tree_need h
          obtain ⟨c2, h⟩ := tree_need h
          simp only [Bool.and_eq_true, decide_eq_true_eq] at c1 c2
          have hp := run_ret_inv h
          simp only [Prod.mk.injEq] at hp
          obtain ⟨rfl, rfl⟩ := hp
          cases hmx
          rw [hlen.1] at eh c1
          have hb := sliceBounds_run (P := P) (w := w) (isS := true) (cap := c) hlo hhi el eh c1.1 c1.2 hlen.2 c2.1 c2.2
          have hr := cut_rep (l := l.toNat) (h := hh.toNat) (mx := c) hv (by omega) (by omega) (by omega) (.inl (Nat.le_refl _))
          refine ⟨_, ?_, hr, fun h => by cases h⟩
          simp only [Instr.sliceAt, Sem.run_bind, run_underlying hu, Result.andThen_ok, Instr.slice, hb, run_sizeOf htj, Sem.run_pure]
          rw [← hs, hsz]
        · rename_i l hh k mxv el eh
          split at h
          · rename_i hsome
            obtain ⟨c0, h⟩ := tree_need h
            obtain ⟨c1, h⟩ := tree_need h
            obtain ⟨c2, h⟩ := tree_need h
            simp only [Bool.and_eq_true, decide_eq_true_eq] at c0 c1 c2
            have hp := run_ret_inv h
            simp only [Prod.mk.injEq] at hp
            obtain ⟨rfl, rfl⟩ := hp
            cases hmx with
            | some hm =>
              cases hm
              rw [hlen.1] at eh c1
              have hb := sliceBounds3_run (P := P) (w := w) (isS := true) (cap := c) (k := k) (mx := mxv) hlo hhi el eh hsome c1.1 c1.2 hlen.2 c2.1 c2.2 c0.2
              have hr := cut_rep (l := l.toNat) (h := hh.toNat) (mx := hh.toNat) hv (by omega) (by omega) (Nat.le_refl _) (.inl (by omega))
              refine ⟨_, ?_, hr, fun _ => ⟨⟨_, _, rfl⟩, fun a n c e => by injection e with _ e2 e3; omega⟩⟩
              simp only [Instr.sliceAt, Sem.run_bind, run_underlying hu, Result.andThen_ok, Instr.slice, hb, run_sizeOf htj, Sem.run_pure]
              rw [← hs, hsz]
          · cases h
        · cases h
      · cases h
    · cases h
  · cases h

end Go.Pi
