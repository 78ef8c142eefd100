/- The library's functions, by the shelf's contracts. -/
import Derived.Test.YtgikackicafjbaaGreatDoorLexLib
import Derived.Test.YtgikackicafjbaaGreatDoorLexShelf
import Derived.Test.YtgikackicafjbaaGreatDoorPiNum
set_option linter.unusedVariables false
open Go.Proofs
namespace Go.Proofs.YtgikackicafjbaaGreatDoor
open Go.Pi
open Go.RowKit (Below)

theorem two_of {w : World} {L : Nat → Nat} {vs : List Value} {p q : PVal} (hl : vs.length = [p, q].length) (hr : ∀ (i : Nat) (v : Value) (x : PVal), vs[i]? = some v → [p, q][i]? = some x → Rep w L [] v x) : ∃ u v, vs = [u, v] ∧ Rep w L [] u p ∧ Rep w L [] v q := by
  match vs, hl with
  | [u, v], _ => exact ⟨u, v, rfl, hr 0 u p rfl rfl, hr 1 v q rfl rfl⟩
theorem one_of {w : World} {L : Nat → Nat} {vs : List Value} {p : PVal} (hl : vs.length = [p].length) (hr : ∀ (i : Nat) (v : Value) (x : PVal), vs[i]? = some v → [p][i]? = some x → Rep w L [] v x) : ∃ u, vs = [u] ∧ Rep w L [] u p := by
  match vs, hl with
  | [u], _ => exact ⟨u, rfl, hr 0 u p rfl rfl⟩
theorem three_of {w : World} {L : Nat → Nat} {vs : List Value} {p q r : PVal} (hl : vs.length = [p, q, r].length) (hr : ∀ (i : Nat) (v : Value) (x : PVal), vs[i]? = some v → [p, q, r][i]? = some x → Rep w L [] v x) : ∃ u v z, vs = [u, v, z] ∧ Rep w L [] u p ∧ Rep w L [] v q ∧ Rep w L [] z r := by
  match vs, hl with
  | [u, v, z], _ => exact ⟨u, v, z, rfl, hr 0 u p rfl rfl, hr 1 v q rfl rfl, hr 2 z r rfl rfl⟩

theorem p21 (ml : Int) : (lib ml).AnsOK 21 (primA gIndexByte) := by
  refine primA_ok (fn := Tryz.f21) (by kernel_rfl) (by kernel_rfl) (by kernel_rfl) fun args x hx => ?_
  unfold gIndexByte at hx
  split at hx
  · rename_i s c
    have := run_ret_inv hx
    subst this
    intro w L vs hn hg hl hr
    obtain ⟨u, v, rfl, hu, hv⟩ := two_of hl hr
    obtain ⟨b, rfl, rfl⟩ := rep_str_inv hu
    rw [rep_int_inv hv]
    exact (Any.strings_IndexByte Tryz.lays137 b c w).mono fun e w' ⟨he, hw⟩ => ⟨_, L, he, hw ▸ Quiet.refl w hn, .int _ _⟩
  · cases hx
theorem p30 (ml : Int) : (lib ml).AnsOK 30 (primA gIndexByte) := by
  refine primA_ok (fn := Tryz.f30) (by kernel_rfl) (by kernel_rfl) (by kernel_rfl) fun args x hx => ?_
  unfold gIndexByte at hx
  split at hx
  · rename_i s c
    have := run_ret_inv hx
    subst this
    intro w L vs hn hg hl hr
    obtain ⟨u, v, rfl, hu, hv⟩ := two_of hl hr
    obtain ⟨b, rfl, rfl⟩ := rep_str_inv hu
    rw [rep_int_inv hv]
    exact (Any.stringslite_IndexByte Tryz.lays217 b c w).mono fun e w' ⟨he, hw⟩ => ⟨_, L, he, hw ▸ Quiet.refl w hn, .int _ _⟩
  · cases hx
theorem p122 (ml : Int) : (lib ml).AnsOK 122 (primA gMul) := by
  refine primA_ok (fn := Tryz.f122) (by kernel_rfl) (by kernel_rfl) (by kernel_rfl) fun args x hx => ?_
  unfold gMul at hx
  split at hx
  · rename_i x y
    obtain ⟨hc, rfl⟩ := need_ret_inv hx
    simp only [Bool.and_eq_true, decide_eq_true_eq] at hc
    obtain ⟨⟨⟨x0, x1⟩, y0⟩, y1⟩ := hc
    intro w L vs hn hg hl hr
    obtain ⟨u, v, rfl, hu, hv⟩ := two_of hl hr
    rw [rep_int_inv hu, rep_int_inv hv]
    obtain ⟨a, rfl⟩ : ∃ a : Nat, x = a := ⟨x.toNat, by omega⟩
    obtain ⟨b, rfl⟩ : ∃ b : Nat, y = b := ⟨y.toNat, by omega⟩
    refine (Any.bits_Mul64 Tryz.lays264 a b (by omega) (by omega) w).mono fun e w' ⟨he, hw⟩ => ⟨_, L, he, hw ▸ Quiet.refl w hn, ?_⟩
    refine .tup _ _ rfl fun i v p hv hp => ?_
    match i with
    | 0 =>
      simp at hv hp
      subst hv; subst hp
      exact .int _ _
    | 1 =>
      simp at hv hp
      subst hv; subst hp
      exact .int _ _
    | i + 2 => simp at hp
  · cases hx

theorem trim_eq (cut s : List UInt8) : Lib.trimS s cut = trimB cut s := by
  unfold Lib.trimS trimB trimL
  rfl

theorem p27 (ml : Int) : (lib ml).AnsOK 27 (primA gTrim) := by
  refine primA_ok (fn := Tryz.f27) (by kernel_rfl) (by kernel_rfl) (by kernel_rfl) fun args x hx => ?_
  unfold gTrim at hx
  split at hx
  · rename_i s cut
    obtain ⟨hc, rfl⟩ := need_ret_inv hx
    simp only [Bool.and_eq_true, decide_eq_true_eq] at hc
    obtain ⟨⟨h1, h2⟩, h3⟩ := hc
    intro w L vs hn hg hl hr
    obtain ⟨u, v, rfl, hu, hv⟩ := two_of hl hr
    obtain ⟨b, rfl, rfl⟩ := rep_str_inv hu
    obtain ⟨d, rfl, rfl⟩ := rep_str_inv hv
    refine (Any.strings_Trim_ascii Tryz.lays160 (by intro w; kernel_rfl) (by kernel_rfl) b d w (by rw [Lib.size_eq]; exact h1) (by rw [Lib.size_eq]; omega) (fun j c hj => by
      have := List.all_eq_true.1 h2 c (List.mem_of_getElem? hj)
      simpa [UInt8.lt_iff_toNat_lt] using this)).mono fun e w' ⟨he, hw⟩ => ⟨_, L, he, quiet_of_below hn hw, ?_⟩
    rw [trim_eq]
    exact mkStr_rep _
  · cases hx

theorem tabs_of {w : World} {L : Nat → Nat} {ml : Int} (hg : ∀ g x, (lib ml).glob g = some x → Rep w L [] (.pointer (some ⟨g, 0, none⟩)) (.ref x)) : Lib.Utf8Tabs 1 2 w := by
  have h1 := hg 1 (.agg (firstTab.map (.int .u8))) (by kernel_rfl)
  have h2 := hg 2 (.agg (accTab.map (.int .u8))) (by kernel_rfl)
  refine ⟨fun c hc => ?_, fun i hi => ?_⟩
  · rw [tab_cell h1 c (by simpa [firstTab] using hc)]
    have : ∀ c : Fin 256, firstTab.getD c.val 0 = (Lib.firstT c.val : Int) := by decide +kernel
    rw [this ⟨c, hc⟩]
  · rw [tab_cell h2 (2 * i) (by simp [accTab]; omega), tab_cell h2 (2 * i + 1) (by simp [accTab]; omega)]
    have : ∀ i : Fin 16, accTab.getD (2 * i.val) 0 = (Lib.accLo i.val : Int) ∧ accTab.getD (2 * i.val + 1) 0 = (Lib.accHi i.val : Int) := by decide +kernel
    obtain ⟨e1, e2⟩ := this ⟨i, hi⟩
    exact ⟨by rw [e1], by rw [e2]⟩

theorem p73 (ml : Int) : (lib ml).AnsOK 73 (primA gValid) := by
  refine primA_ok (fn := Tryz.f73) (by kernel_rfl) (by kernel_rfl) (by kernel_rfl) fun args x hx => ?_
  unfold gValid at hx
  split at hx
  · rename_i s
    obtain ⟨hc, rfl⟩ := need_ret_inv hx
    simp only [decide_eq_true_eq] at hc
    intro w L vs hn hg hl hr
    obtain ⟨u, rfl, hu⟩ := one_of hl hr
    obtain ⟨b, rfl, rfl⟩ := rep_str_inv hu
    exact (Any.utf8_ValidString Tryz.lays196 b w (by rw [Lib.size_eq]; exact hc) (tabs_of hg)).mono fun e w' ⟨he, hw⟩ => ⟨_, L, he, quiet_of_below hn hw, .bool _⟩
  · cases hx

theorem repS_eq (s : List UInt8) (n : Nat) : Lib.repeatL s n = repS s n := by
  induction n with
  | zero => rfl
  | succ n ih => simp only [Lib.repeatL, repS, ih]

theorem p108 (ml : Int) : (lib ml).AnsOK 108 (primA gRepeat) := by
  refine primA_ok (fn := Tryz.f108) (by kernel_rfl) (by kernel_rfl) (by kernel_rfl) fun args x hx => ?_
  unfold gRepeat at hx
  split at hx
  · rename_i s c
    obtain ⟨hc, rfl⟩ := need_ret_inv hx
    simp only [Bool.and_eq_true, decide_eq_true_eq] at hc
    obtain ⟨⟨h1, h2⟩, h3⟩ := hc
    intro w L vs hn hg hl hr
    obtain ⟨u, v, rfl, hu, hv⟩ := two_of hl hr
    obtain ⟨b, rfl, rfl⟩ := rep_str_inv hu
    rw [rep_int_inv hv]
    obtain ⟨n, rfl⟩ : ∃ n : Nat, c = n := ⟨c.toNat, by omega⟩
    refine (Any.strings_Repeat Tryz.lays105 Tryz.Builder_Extra_105 b n w (by omega) (by rw [Lib.size_eq]; exact h2)).mono fun e w' ⟨he, hw⟩ => ⟨_, L, he, quiet_of_below hn hw, ?_⟩
    rw [repS_eq]
    exact mkStr_rep _
  · cases hx

theorem idx1 (c : UInt8) : ∀ s : List UInt8, Lib.index s [c] = Lib.indexByte s c
  | [] => rfl
  | b :: s => by
    unfold Lib.index Lib.indexByte
    rw [idx1 c s]
    have : ([c] : List UInt8).isPrefixOf (b :: s) = (b == c) := by
      simp only [List.isPrefixOf, Bool.and_true]
      by_cases h : b = c
      · subst h; simp
      · have h' : ¬ c = b := fun e => h e.symm
        rw [beq_eq_false_iff_ne.2 h, beq_eq_false_iff_ne.2 h']
    rw [this]

theorem replK (c : UInt8) (new : List UInt8) : ∀ s : List UInt8, Lib.replaceK [c] new (Lib.count s [c]) s = replB c new s
  | [] => by rw [Lib.count_miss (by simp [Lib.index])]; rfl
  | b :: s => by
    have ih := replK c new s
    by_cases h : b = c
    · subst h
      rw [Lib.count_cons_eq, Nat.add_comm, Lib.replaceK_hit [b] new _ (b :: s) 0 (by rw [Lib.index]; simp [List.isPrefixOf])]
      simp only [replB, List.take_zero, List.nil_append, beq_self_eq_true, if_true]
      have : List.drop (0 + [b].length) (b :: s) = s := rfl
      rw [this, ih]
    · rw [Lib.count_cons_ne b c s h]
      have hb : (b == c) = false := by simp [h]
      have hix : Lib.index (b :: s) [c] = if Lib.index s [c] == -1 then -1 else Lib.index s [c] + 1 := by
        have hp : ([c] : List UInt8).isPrefixOf (b :: s) = false := by simp [List.isPrefixOf, Ne.symm h]
        rw [Lib.index, hp]; simp
      simp only [replB, hb]
      cases hk : Lib.count s [c] with
      | zero =>
        rw [hk] at ih
        simp only [Lib.replaceK] at ih ⊢
        rw [← ih]; rfl
      | succ k =>
        rw [hk] at ih
        obtain ⟨i, hi⟩ := Lib.index_of_count (s := s) (old := [c]) (by omega)
        rw [Lib.replaceK_hit [c] new k s i hi] at ih
        rw [Lib.replaceK_hit [c] new k (b :: s) (i + 1) (by
          rw [hix, hi]
          have : ((i : Int) == -1) = false := by simp
          rw [this]; simp)]
        rw [← ih]
        have e : List.drop (i + 1 + [c].length) (b :: s) = List.drop (i + [c].length) s := by
          rw [show i + 1 + [c].length = (i + [c].length) + 1 by simp]; rfl
        rw [e]
        rfl

theorem p77 (ml : Int) : (lib ml).AnsOK 77 (primA gReplace) := by
  refine primA_ok (fn := Tryz.f77) (by kernel_rfl) (by kernel_rfl) (by kernel_rfl) fun args x hx => ?_
  unfold gReplace at hx
  split at hx
  · rename_i s c new
    obtain ⟨hc, rfl⟩ := need_ret_inv hx
    simp only [Bool.and_eq_true, decide_eq_true_eq] at hc
    intro w L vs hn hg hl hr
    obtain ⟨u, v, z, rfl, hu, hv, hz⟩ := three_of hl hr
    obtain ⟨b, rfl, rfl⟩ := rep_str_inv hu
    obtain ⟨d, rfl, hd⟩ := rep_str_inv hv
    obtain ⟨n, rfl, rfl⟩ := rep_str_inv hz
    have hml := one_cell (hg 0 (.int .i64 ml) (by kernel_rfl))
    have hds : d.size = 1 := by rw [Lib.size_eq, hd]; rfl
    have hcnt : Lib.countB b d ≤ b.size := by
      show Lib.count _ _ ≤ _
      rw [hd, Lib.count_one, Lib.size_eq]
      exact List.count_le_length
    refine (Any.strings_ReplaceAll Tryz.lays155 Tryz.Builder_Extra_155 b d n ml w (by rw [Lib.size_eq]; exact hc.1) hml (by omega) ?_).mono fun e w' ⟨he, hw⟩ => ⟨_, L, he, quiet_of_below hn hw, ?_⟩
    · have h4 : n.size ≤ 4 := by rw [Lib.size_eq]; exact hc.2
      have h5 : b.size < 4294967281 := by rw [Lib.size_eq]; exact hc.1
      have := Nat.mul_le_mul hcnt h4
      omega
    · have : Lib.replaceAll b.data.toList d.data.toList n.data.toList = replB c n.data.toList b.data.toList := by
        rw [hd]
        unfold Lib.replaceAll Lib.replace Lib.replaceNum
        split
        · rename_i heq
          have : n.data.toList = [c] := (beq_iff_eq.1 heq).symm
          rw [this]
          have : ∀ l : List UInt8, replB c [c] l = l := by
            intro l
            induction l with
            | nil => rfl
            | cons a l ih =>
              unfold replB
              by_cases h : a = c
              · subst h; simp [ih]
              · simp [h, ih]
          rw [this]
        · rw [if_pos (.inl (by omega))]
          exact replK c _ _
      rw [this]
      exact mkStr_rep _
  · cases hx
end Go.Proofs.YtgikackicafjbaaGreatDoor
