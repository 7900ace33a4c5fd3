/-
  slices.Sorted(maps.Keys(m)) at a map that has nothing in it: nil.
-/
import Derived.Test.YtocofoiijfofaaaGreatDoorZIterPlain
import Derived.Test.YtocofoiijfofaaaGreatDoorAmBytes
set_option linter.unusedSimpArgs false
set_option linter.unusedVariables false
set_option maxRecDepth 10000
namespace Go.Proofs
open Go.RowKit Go.Maps Go.Sort Go.Shelf

theorem Tryz.sortsI (m : Nat) : AnyZI.SortsIn Tryz.prog Tryz.sorted43_ren Fence.wide m :=
  ⟨fun blk off cap ss W hH hblk hsz => callsIn_wide.2 (AnyM.slices_Sort_int Tryz.sort69 blk off cap ss W hH hblk hsz),
   fun p cap W => callsIn_wide.2 (AnyM.slices_Sort_int_none Tryz.sort69 p cap W)⟩

theorem Tryz.sortedKeys0 (B b clock : Nat) (w : World) (hB : B < w.heap.size) (hm : w.cell? ⟨B, 0, none⟩ = some (.map (some b))) (hb : w.heap[b]? = some (.map #[] clock)) :
    Calls Tryz.prog 43 #[.func (.func 70) #[] #[.pointer (some ⟨B, 0, none⟩)]] w fun e w' => e = .returned (.slice none 0 0) ∧ Below w.heap.size w w' := by
  have hown : w.ownsMap (H := Unit) Tryz.prog 3 (fun _ => some (.nil, [])) b 0 (.map []) :=
    ⟨#[], clock, hb, ⟨Nat.zero_le _, ⟨by simp, by simp⟩, fun x hx => by simp at hx⟩, Nat.le_refl _, rfl⟩
  have hseq : SeqGives Fence.wide 2 Tryz.prog 70 #[.pointer (some ⟨B, 0, none⟩)] encZ (fun ss => ss.Perm (intKeys (.map [] : DataW Unit))) (Maps.size (.map [] : DataW Unit)) w :=
    AnyZI.keys_gives (ρ := Tryz.keys44_ren) { Tryz.keys44 with } Fence.wide _ trivial rfl (by omega) B b 0 (.map []) w hB hm hown
  have hc := AnyZI.sorted_in Tryz.sorted43 Fence.wide 5 trivial trivial trivial trivial rfl (by omega) (Tryz.sortsI _) (enters_of Tryz.func69 (by kernel_rfl) rfl) 70 #[.pointer (some ⟨B, 0, none⟩)] trivial (enters_of Tryz.func70 (by kernel_rfl) rfl) _ _ (by show 0 ≤ _; exact Nat.zero_le _) (by show 0 * 8 ≤ _; omega) _ hseq
  refine ((callsIn_wide (n := 5)).1 hc).mono fun e w' h => ?_
  obtain ⟨v, ss, h1, h2, _, h4, h5⟩ := h
  have hss : ss = [] := by
    have h3 : intKeys (.map [] : DataW Unit) = [] := rfl
    rw [h3] at h2
    exact List.perm_nil.1 h2
  exact ⟨h1.trans (congrArg Ending.returned (h4.2 hss)), h5⟩
end Go.Proofs
