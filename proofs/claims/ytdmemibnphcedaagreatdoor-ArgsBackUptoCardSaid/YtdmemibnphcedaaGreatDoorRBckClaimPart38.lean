/-
  A template that is written again has the same items, in plain words. (No program in sight.)
-/
import Derived.Test.YtdmemibnphcedaaGreatDoorRBckClaimPart22
set_option linter.unusedSimpArgs false
set_option linter.unusedVariables false
set_option maxRecDepth 10000
namespace Go.Proofs.YtdmemibnphcedaaGreatDoor
open Go.Am

theorem nm_ne {s : ByteArray} (h : isNm s = true) : s.data.toList ≠ [] := fun hm => by
 unfold isNm at h
 simp only [Bool.and_eq_true, decide_eq_true_eq] at h
 have := size_list s
 rw [hm] at this
 simp only [List.length_nil] at this
 omega
/-- a good item -/
def ItGood (x : IM) : Prop := x.names ≠ [] ∧ x.names.all isNm = true ∧ x.mks.fit = true
theorem itemA_good {s : ByteArray} {x : IM} (h : itemA s = some x) : ItGood x := by
 unfold itemA at h
 split at h
 ·rename_i hd t _
  split at h
  ·split at h
   ·rename_i hc
    rw [Bool.and_eq_true] at hc
    cases h
    exact ⟨pieces_ne _ _, hc.1, hc.2⟩
   ·cases h
  ·cases h
 ·cases h
theorem itemsA_good : ∀ {ps : List ByteArray} {l : List IM}, itemsA ps = some l → ps.length = l.length ∧ ∀ x ∈ l, ItGood x
 | [], l, h => by simp only [itemsA, Option.some.injEq] at h; subst h; exact ⟨rfl, fun x hx => by cases hx⟩
 | p :: r, l, h => by
  simp only [itemsA] at h
  split at h
  ·rename_i x hx
   simp only [Option.map_eq_some_iff] at h
   obtain ⟨l', h1, rfl⟩ := h
   obtain ⟨k1, k2⟩ := itemsA_good h1
   refine ⟨by simp [k1], fun y hy => ?_⟩
   rcases List.mem_cons.1 hy with rfl | hy
   ·exact itemA_good hx
   ·exact k2 y hy
  ·cases h
end Go.Proofs.YtdmemibnphcedaaGreatDoor
