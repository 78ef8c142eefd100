/- strings.Join, by the shelf's contract. -/
import Derived.Test.YtgikackicafjbaaGreatDoorLexPrim
set_option linter.unusedVariables false
open Go.Proofs
namespace Go.Proofs.YtgikackicafjbaaGreatDoor
open Go.Pi
open Go.RowKit (Below)

theorem joinS_eq (sep : List UInt8) : ∀ l : List (List UInt8), Lib.join l sep = joinS sep l
  | [] => rfl
  | [x] => Lib.join_one x sep
  | x :: y :: l => by
    have ih := joinS_eq sep (y :: l)
    rw [joinS, ← ih]
    · simp [Lib.join, List.intercalate, List.intersperse]
    · intro h; cases h

theorem p25 (ml : Int) : (lib ml).AnsOK 25 (primA gJoin) := by
  refine primA_ok (fn := Tryz.f25) (by kernel_rfl) (by kernel_rfl) (by kernel_rfl) fun args x hx => ?_
  unfold gJoin at hx
  split at hx
  · rename_i xs sep
    obtain ⟨hc, rfl⟩ := need_ret_inv hx
    simp only [Bool.and_eq_true, decide_eq_true_eq] at hc
    obtain ⟨⟨h1, h2⟩, h3⟩ := hc
    intro w L vs hn hg hl hr
    obtain ⟨u, v, rfl, hu, hv⟩ := two_of hl hr
    obtain ⟨d, rfl, rfl⟩ := rep_str_inv hv
    have none_ : ∀ (a : Option Addr) (c : Nat), Calls (lib ml).P 25 #[.slice a 0 c, .string d] w fun e w' => ∃ v L', e = .returned v ∧ Quiet w L w' L' ∧ Rep w' L' [] v (.str (joinS d.data.toList [])) := by
      intro a c
      refine (Any.strings_Join_none Tryz.lays156 Tryz.Builder_Extra_156 a c d w).mono fun e w' ⟨he, hw⟩ => ⟨_, L, he, hw ▸ Quiet.refl w hn, ?_⟩
      exact mkStr_rep []
    cases hu with
    | sl0 a c => exact none_ a c
    | sl b o n c _ _ cv hn2 hc2 hm hsz hcell hone hL h hN =>
      rcases Nat.eq_zero_or_pos n with h0 | h0
      · subst h0
        have : xs = [] := List.eq_nil_of_length_eq_zero hn2
        subst this
        exact none_ _ c
      · have hb : b < w.heap.size := by
          rcases Nat.lt_or_ge b w.heap.size with h' | h'
          · exact h'
          · have := hn b h'
            omega
        have hstr : ∀ p ∈ xs, p = .str (strOf p) := by
          intro p hp
          have := List.all_eq_true.1 h1 p hp
          cases p <;> first | rfl | cases this
        have e1 : xs.map strOf = (xs.map fun p => (⟨(strOf p).toArray⟩ : ByteArray)).map (·.data.toList) := by
          rw [List.map_map]
          apply List.map_congr_left
          intro p _
          simp
        have key := Any.strings_Join Tryz.lays156 Tryz.Builder_Extra_156 b o c (xs.map fun p => (⟨(strOf p).toArray⟩ : ByteArray)) d w (fun j x hj => by
            rw [List.getElem?_map, Option.map_eq_some_iff] at hj
            obtain ⟨p, hp, rfl⟩ := hj
            have hj : j < xs.length := (List.getElem?_eq_some_iff.1 hp).1
            have hp' := hstr p (List.mem_of_getElem? hp)
            have hr2 := h j p 0 p hp (by rw [hp']; rfl)
            rw [hp'] at hr2
            obtain ⟨b', hb', hd'⟩ := rep_str_inv hr2
            rw [hcell j (by omega)]
            simp only [Nat.mul_one, Nat.add_zero] at hb'
            rw [hb', ← hd']) hb (by simpa using h3) (by simp; omega) (by rw [← e1, joinS_eq]; exact h2)
        rw [← e1, joinS_eq] at key
        simp only [List.length_map] at key
        rw [hn2] at key
        exact key.mono fun e w' ⟨he, hw⟩ => ⟨_, L, he, quiet_of_below hn hw, mkStr_rep _⟩
  · cases hx
end Go.Proofs.YtgikackicafjbaaGreatDoor
