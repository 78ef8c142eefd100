/- strconv.FormatUint; all the library's functions. -/
import Derived.Test.YtgikackicafjbaaGreatDoorLexPrim2
import Derived.Test.YtgikackicafjbaaGreatDoorLexFmt
set_option linter.unusedVariables false
open Go.Proofs
namespace Go.Proofs.YtgikackicafjbaaGreatDoor
open Go.Pi
open Go.RowKit (Below)

theorem digs_eq : ∀ (k n : Nat), n < 10 ^ k → 0 < k → Lib.decDigits n = digs k n
  | 0, n, h, hk => by omega
  | k + 1, n, h, hk => by
    rw [Lib.decDigits, digs]
    by_cases hn : n < 10
    · rw [dif_pos hn, if_pos hn]
    · rw [dif_neg hn, if_neg hn]
      have hk0 : 0 < k := by
        rcases Nat.eq_zero_or_pos k with h0 | h0
        · subst h0; omega
        · exact h0
      rw [digs_eq k (n / 10) (by rw [Nat.pow_succ] at h; omega) hk0]

theorem fmt107 (u : Nat) (hu64 : u < 18446744073709551616) (w : World) (htab : ∀ i : Nat, i < 20 → w.cell? ⟨5, i, none⟩ = some (.int .u64 ((10 ^ i : Nat) : Int))) (hsz5 : 5 < w.heap.size) :
    Calls Tryz.prog 107 #[.int .u64 u, .int .i64 10] w fun e w' => e = .returned (.string ⟨(Lib.decDigits u).toArray⟩) ∧ ∃ k os, w' = Go.Sort.grow (w.drewN k) os := by
  have key := fmt127 u hu64 w htab hsz5
  clear htab
  go_enter Tryz.func107, Tryz.ntmps107
  go_wp2_with (go_at_call 127; refine key.mono ?_; rintro e w' ⟨rfl, k, os, rfl⟩)
  go_ret
  exact ⟨rfl, k, os, rfl⟩

theorem below_gr (w : World) (k : Nat) (os : Array Obj) : Below w.heap.size w (Go.Sort.grow (w.drewN k) os) := by
  refine ⟨?_, ?_, ?_, ?_, fun i hi => ?_⟩
  · simp [Go.Sort.grow, World.drewN]
  · simp [Go.Sort.grow, World.drewN]
  · simp [Go.Sort.grow, World.drewN]
  · simp [Go.Sort.grow, World.drewN]
  · simp only [Go.Sort.grow]
    rw [Array.getElem?_append_left (by simpa [World.drewN] using hi)]
    simp [World.drewN]

theorem p107 (ml : Int) : (lib ml).AnsOK 107 (primA gFormat) := by
  refine primA_ok (fn := Tryz.f107) (by kernel_rfl) (by kernel_rfl) (by kernel_rfl) fun args x hx => ?_
  unfold gFormat at hx
  split at hx
  · rename_i n
    obtain ⟨hc, rfl⟩ := need_ret_inv hx
    simp only [Bool.and_eq_true, decide_eq_true_eq] at hc
    intro w L vs hn hg hl hr
    obtain ⟨u, v, rfl, hu, hv⟩ := two_of hl hr
    rw [rep_int_inv hu, rep_int_inv hv]
    obtain ⟨a, rfl⟩ : ∃ a : Nat, n = a := ⟨n.toNat, by omega⟩
    have h5 := hg 5 (.agg (powTab.map (.int .u64))) (by kernel_rfl)
    have hsz : 5 < w.heap.size := by
      rcases Nat.lt_or_ge 5 w.heap.size with h' | h'
      · exact h'
      · have := hn 5 h'
        cases h5 with
        | ref b o x cv hcell hone hL h hN => simp [PVal.cells, powTab] at hL; omega
    refine (fmt107 a (by omega) w (fun i hi => ?_) hsz).mono fun e w' ⟨he, k, os, hw⟩ => ⟨_, L, he, ?_, ?_⟩
    · rw [tab_cell h5 i (by simpa [powTab] using hi)]
      simp [powTab, List.getD, hi]
    · subst hw
      exact quiet_of_below hn ((Go.RowKit.Below.refl _ w).trans (below_gr w k os))
    · rw [digs_eq 20 a (by omega) (by omega)]
      exact mkStr_rep _
  · cases hx

theorem prims_ok (ml : Int) : (lib ml).Knows (kn prims) :=
  kn_cons (p21 ml) (kn_cons (p30 ml) (kn_cons (p25 ml) (kn_cons (p27 ml) (kn_cons (p73 ml) (kn_cons (p77 ml) (kn_cons (p108 ml) (kn_cons (p107 ml) (kn_cons (p122 ml) kn_nil))))))))
end Go.Proofs.YtgikackicafjbaaGreatDoor
