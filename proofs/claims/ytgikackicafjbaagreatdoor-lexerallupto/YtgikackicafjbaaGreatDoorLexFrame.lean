/- The frame of the Lexer seat's laws over one string: from the row's world to the answer. -/
import Derived.Test.YtgikackicafjbaaGreatDoorCards
import Derived.Test.YtgikackicafjbaaGreatDoorTie
import Derived.Test.YtgikackicafjbaaGreatDoorPiFrame
import Derived.Test.YtgikackicafjbaaGreatDoorLexPrim3
import Derived.ProofKit
import Derived.OpenShut
import Derived.Deep.DeepHandedRow
import Derived.Deep.DeepWitnessRowRef
import Derived.Lib.LaidIn
import Derived.Lib.LaidTab
import Derived.Lib.LaidU8T
import Derived.Stop.LaidErr
import Derived.ShutString
set_option linter.unusedVariables false
open Go.Proofs
namespace Go.Proofs.YtgikackicafjbaaGreatDoor
open Go.Pi
open Go.ChangeShapes Go.WideShapes Go.ChangeAt Go.RowKit Go.Lib
open Go.ChangeMaps (open_string shut_string)

section
variable {H : Type} {enc : TypeId × Value → H} {P : Program}
theorem post_of_below {f : Func} {s : ChangeSpec} {apart fresh handsOn again : Bool} {W W' : World} {args : Array Value} {v : Value} {ds gs : List (DataW H)} {before pa pv : List MemPlace}
    (hW : DataW.Whole enc P f.params.toList s.vars apart W args.toList ds gs before)
    (hres : ∀ (b : Nat) (sp : Nat → Bool) (hd : Bool), DataW.TrodAll enc P W' b sp hd f.resultTypes.toList (v.resultList f.resultTypes.size) (s.fn H (ds ++ gs)).results [])
    (hargs : ∀ sp : Nat → Bool, (∀ p ∈ before, sp p.block = true) → DataW.TrodAll enc P W' 0 sp true f.params.toList args.toList (s.fn H (ds ++ gs)).args pa)
    (hvars : ∀ sp : Nat → Bool, (∀ p ∈ before, sp p.block = true) → DataW.TrodVars enc P W' sp s.vars (s.fn H (ds ++ gs)).vars pv)
    (hps : before = pa ++ pv) (hb : Below W.heap.size W W')
    (hok : ∀ (j : Nat) (t : TypeId) (r : Value), f.resultTypes[j]? = some t → (v.resultList f.resultTypes.size)[j]? = some r → Value.okWide P W' .any 0 t r) :
    s.post enc P f apart fresh handsOn again W args v W' := by
  have hlt : ∀ p ∈ before, p.block < W.heap.size := fun p hp => hW.lt p hp
  have hold : ∀ p ∈ before, (fun b => decide (b < W.heap.size)) p.block = true := fun p hp => by simpa using hlt p hp
  refine ⟨ds, gs, before, [], pa, pv, hW, hres _ _ _, hargs _ hold, hvars _ hold, World.keptBut_mono (fun p hp => ⟨hp, ?_⟩) (hb.frame (· ∈ before)), fun _ => ?_⟩
  · rw [hps, List.mem_append] at hp
    exact Or.inr hp
  · obtain ⟨_, _, _, _, _, hz, hn⟩ := hW
    refine ⟨hok, _, _, ([] ++ pa) ++ pv, ⟨[] ++ pa, pv, trodAll_append (hargs _ (fun _ _ => rfl)) (hres _ _ _), hvars _ (fun _ _ => rfl), rfl, ?_, ?_⟩, ?_⟩
    · intro b off hp
      have hin : MemPlace.cell b off ∈ before := by rw [hps]; simpa using hp
      rw [hb.frozen (hlt _ hin)]
      exact hz b off hin
    · intro ha
      have := hn ha
      rw [hps] at this
      simpa using this
    · intro p hp _
      rw [hps]
      simpa using hp
end

theorem own : ownKnob Tryz.prog.godebug = none := by kernel_rfl

/-- What every law's row lists. -/
def laidAll : List (String × DataW Unit) := [("math/bits.deBruijn32tab", Rows.laid_math_bits_deBruijn32tab), ("math/bits.deBruijn64tab", Rows.laid_math_bits_deBruijn64tab), ("internal/strconv.uint64pow10", Rows.laid_internal_strconv_uint64pow10), ("unicode/utf8.acceptRanges", Rows.laid_unicode_utf8_acceptRanges), ("strconv.ErrRange", Rows.laid_strconv_ErrRange), ("strconv.ErrSyntax", Rows.laid_strconv_ErrSyntax), ("unicode/utf8.first", Rows.laid_unicode_utf8_first)]

theorem first_data : (Rows.laid_unicode_utf8_first : DataW Unit) = Lib.firstData := by kernel_rfl
theorem accept_data : (Rows.laid_unicode_utf8_acceptRanges : DataW Unit) = Lib.acceptData := by kernel_rfl
theorem utabs {W : World} (hL : laidMet Tryz.prog laidAll W) : Lib.Utf8Tabs 1 2 W := by
  have h1 := Lib.laidMet.reads hL (n := "unicode/utf8.first") (.tail _ (.tail _ (.tail _ (.tail _ (.tail _ (.tail _ (.head _)))))))
  have h2 := Lib.laidMet.reads hL (n := "unicode/utf8.acceptRanges") (.tail _ (.tail _ (.tail _ (.head _))))
  rw [first_data] at h1
  rw [accept_data] at h2
  exact utf8Tabs_of_readsT (ρ := Tryz.lays196_ren) (U8Types.of196 Tryz.lays196) ⟨by kernel_rfl, by kernel_rfl, by kernel_rfl, by kernel_rfl, by kernel_rfl, by kernel_rfl, by kernel_rfl⟩ h1 h2

theorem pow_data : Rows.laid_internal_strconv_uint64pow10 (H := Unit) = tabData .u64 Lib.pow10Tab := by kernel_rfl
theorem ptab {W : World} (hL : laidMet Tryz.prog laidAll W) : ∀ i : Nat, i < 20 → W.cell? ⟨5, i, none⟩ = some (.int .u64 ((10 ^ i : Nat) : Int)) := by
  have h3 := hL.tail.tail
  rw [pow_data] at h3
  have ht : Lib.TabIs Tryz.prog W "internal/strconv.uint64pow10" .u64 Lib.pow10Tab := Lib.tabIs_of_head (g := 5) (n := 20) (e := 119) (by kernel_rfl) rfl (by kernel_rfl) (by kernel_rfl) (by kernel_rfl) (by kernel_rfl) h3
  intro i hi
  rw [ht.cell (g := 5) (by kernel_rfl) i (by rw [Lib.pow10Tab_length]; exact hi), Lib.pow10Tab_at i hi]

theorem maxlen {W : World} (h : W.ShapedOpen Tryz.prog) : ∃ m, W.cell? ⟨0, 0, none⟩ = some (.int .i64 m) :=
  Go.Proofs.cell_of_shapedOpen_int (zero := #[.int .i64 0]) (t := 3) h (of_decide_eq_true (by kernel_rfl)) (by kernel_rfl) rfl (by kernel_rfl) (by kernel_rfl) Tryz.underlying3

theorem lt_of_cell {W : World} {b o : Nat} {v : Value} (h : W.cell? ⟨b, o, none⟩ = some v) : b < W.heap.size := by
  rcases Nat.lt_or_ge b W.heap.size with h' | h'
  · exact h'
  · simp [World.cell?, Array.getElem?_eq_none h'] at h

/-- How much of each table's block is never written. -/
def lims : Nat → Nat
  | 0 => 1
  | 1 => 256
  | 2 => 32
  | 5 => 20
  | _ => 0

/-- WHAT THE ROW GIVES: the program's tables, as Pi sees them. -/
theorem globs_ok {W : World} (hL : laidMet Tryz.prog laidAll W) (hS : W.ShapedOpen Tryz.prog) : ∃ ml : Int, (∀ b, W.heap.size ≤ b → lims b = 0) ∧ ∀ g x, (lib ml).glob g = some x → Rep W lims [] (.pointer (some ⟨g, 0, none⟩)) (.ref x) := by
  obtain ⟨ml, hm⟩ := maxlen hS
  have hu := utabs hL
  have hp := ptab hL
  have h5 : 5 < W.heap.size := lt_of_cell (hp 0 (by omega))
  refine ⟨ml, fun b hb => ?_, fun g x hx => ?_⟩
  · unfold lims
    split <;> first | rfl | omega
  · have hx : globs ml g = some x := hx
    unfold globs at hx
    split at hx
    · injection hx with hx; subst hx; exact one_ref (by decide) hm
    · injection hx with hx; subst hx
      refine tab_ref (by simp [firstTab, lims]) fun i hi => ?_
      have hi' : i < 256 := by simpa [firstTab] using hi
      rw [hu.1 i hi']
      have : ∀ c : Fin 256, firstTab.getD c.val 0 = (Lib.firstT c.val : Int) := by decide +kernel
      rw [this ⟨i, hi'⟩]
    · injection hx with hx; subst hx
      refine tab_ref (by simp [accTab, lims]) fun i hi => ?_
      have hi' : i < 32 := by simpa [accTab] using hi
      have : ∀ j : Fin 16, accTab.getD (2 * j.val) 0 = (Lib.accLo j.val : Int) ∧ accTab.getD (2 * j.val + 1) 0 = (Lib.accHi j.val : Int) := by decide +kernel
      obtain ⟨e1, e2⟩ := this ⟨i / 2, by omega⟩
      obtain ⟨c1, c2⟩ := hu.2 (i / 2) (by omega)
      rcases Nat.mod_two_eq_zero_or_one i with hm2 | hm2
      · have : i = 2 * (i / 2) := by omega
        rw [this, c1]; simp only at e1; rw [e1]
      · have : i = 2 * (i / 2) + 1 := by omega
        rw [this, c2]; simp only at e2; rw [e2]
    · injection hx with hx; subst hx
      refine tab_ref (by simp [powTab, lims]) fun i hi => ?_
      have hi' : i < 20 := by simpa [powTab] using hi
      rw [hp i hi']
      simp [powTab, List.getD, hi']
    · cases hx

/-- THE WITNESS: the settled world, two blocks more (the errors' structs), the variables holding what their initialisers lay. -/
noncomputable def laidWorld (os : Os) : World :=
  let N := (World.settled Tryz.prog os).heap.size
  let w0 := World.holding Tryz.prog os ⟨#[.cells #[.string ⟨#[105, 110, 118, 97, 108, 105, 100, 32, 115, 121, 110, 116, 97, 120]⟩] 197, .cells #[.string ⟨#[118, 97, 108, 117, 101, 32, 111, 117, 116, 32, 111, 102, 32, 114, 97, 110, 103, 101]⟩] 197], #[], []⟩
  let put (h : Array Obj) (g : Nat) (cs : Array Value) : Array Obj := h.modify g fun
    | .cells _ t frozen => .cells cs t frozen
    | o => o
  let h1 := put w0.heap 1 (firstTab.map fun z => Value.int .u8 z).toArray
  let h2 := put h1 2 (accTab.map fun z => Value.int .u8 z).toArray
  let h3 := put h2 3 #[.iface 195 (.pointer (some ⟨N, 0, none⟩))]
  let h4 := put h3 4 #[.iface 195 (.pointer (some ⟨N + 1, 0, none⟩))]
  let h5 := put h4 5 (powTab.map fun z => Value.int .u64 z).toArray
  let h6 := put h5 6 #[.int .u8 0, .int .u8 1, .int .u8 28, .int .u8 2, .int .u8 29, .int .u8 14, .int .u8 24, .int .u8 3, .int .u8 30, .int .u8 22, .int .u8 20, .int .u8 15, .int .u8 25, .int .u8 17, .int .u8 4, .int .u8 8, .int .u8 31, .int .u8 27, .int .u8 13, .int .u8 23, .int .u8 21, .int .u8 19, .int .u8 16, .int .u8 7, .int .u8 26, .int .u8 12, .int .u8 18, .int .u8 6, .int .u8 11, .int .u8 5, .int .u8 10, .int .u8 9]
  let h7 := put h6 7 #[.int .u8 0, .int .u8 1, .int .u8 56, .int .u8 2, .int .u8 57, .int .u8 49, .int .u8 28, .int .u8 3, .int .u8 61, .int .u8 58, .int .u8 42, .int .u8 50, .int .u8 38, .int .u8 29, .int .u8 17, .int .u8 4, .int .u8 62, .int .u8 47, .int .u8 59, .int .u8 36, .int .u8 45, .int .u8 43, .int .u8 51, .int .u8 22, .int .u8 53, .int .u8 39, .int .u8 33, .int .u8 30, .int .u8 24, .int .u8 18, .int .u8 12, .int .u8 5, .int .u8 63, .int .u8 55, .int .u8 48, .int .u8 27, .int .u8 60, .int .u8 41, .int .u8 37, .int .u8 16, .int .u8 46, .int .u8 35, .int .u8 44, .int .u8 21, .int .u8 52, .int .u8 32, .int .u8 23, .int .u8 11, .int .u8 54, .int .u8 26, .int .u8 40, .int .u8 15, .int .u8 34, .int .u8 20, .int .u8 31, .int .u8 10, .int .u8 25, .int .u8 14, .int .u8 19, .int .u8 9, .int .u8 13, .int .u8 8, .int .u8 7, .int .u8 6]
  { w0 with heap := h7 }

noncomputable abbrev N0 : Nat := (World.settled Tryz.prog default).heap.size
set_option maxRecDepth 1000000 in
theorem laid_met (os : Os) (args : Array Value) : laidMet Tryz.prog laidAll ((laidWorld os).forCall (fun _ _ => 0) ⟨#[], args, []⟩).memory :=
  (LaidIn.of_run (P := Tryz.prog) (w := ((laidWorld os).forCall (fun _ _ => 0) ⟨#[], args, []⟩).memory) (l := laidAll) [1, 2, 3, 4, 5, 6, 7, N0, N0 + 1] 8 (by kernel_rfl) (by kernel_rfl) (by kernel_rfl) (by kernel_rfl)).met
end Go.Proofs.YtgikackicafjbaaGreatDoor
