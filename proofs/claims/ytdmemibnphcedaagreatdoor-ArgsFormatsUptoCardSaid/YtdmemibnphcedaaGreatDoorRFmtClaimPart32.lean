/-
  Words written in quotes and read again, in plain words. (No program in sight.)
-/
import Derived.Test.YtdmemibnphcedaaGreatDoorRFmtClaimPart30
import Derived.Test.YtdmemibnphcedaaGreatDoorRFmtClaimPart31
set_option linter.unusedSimpArgs false
set_option linter.unusedVariables false
set_option maxRecDepth 10000
namespace Go.Proofs.YtdmemibnphcedaaGreatDoor
open Go.Am

/-- a byte that a word may have -/
def okB (c : UInt8) : Bool := decide (c.toNat = 10) || prn c
theorem okB_keep {c : UInt8} (h : okB c = true) : qB c = c := by
 unfold okB prn at h
 simp only [Bool.or_eq_true, Bool.and_eq_true, decide_eq_true_eq] at h
 exact qB_keep h
theorem map_qB : ∀ {l : List UInt8}, l.all okB = true → l.map qB = l
 | [], _ => rfl
 | c :: l, h => by
  rw [List.all_cons, Bool.and_eq_true] at h
  rw [List.map_cons, okB_keep h.1, map_qB h.2]
theorem okB_prn {c : UInt8} (h : okB c = true) (h1 : c ≠ 10) : prn c = true := by
 unfold okB at h
 rw [Bool.or_eq_true] at h
 rcases h with h | h
 ·exact absurd (UInt8.toNat_inj.1 (of_decide_eq_true h)) h1
 ·exact h

/-- what stands behind a word -/
def behind (r : List UInt8) : Prop := r = [] ∨ ∃ d r', r = d :: r' ∧ (d = 32 ∨ d = 61)

/-- is the word written in quotes -/
def isQ (l : List UInt8) : Bool := !(decide (l ≠ []) && !(l.any spc))
theorem quoteL_ok {l : List UInt8} (h : l.all okB = true) : quoteL l = if isQ l = true then 34 :: (escL l ++ [34]) else l := by
 unfold quoteL isQ
 rw [map_qB h]
 by_cases h1 : l = []
 ·subst h1; rfl
 ·by_cases h2 : l.any spc = false
  ·rw [if_pos ⟨h1, h2⟩, h2]; simp [h1]
  ·rw [if_neg (fun hh => h2 hh.2)]
   rw [Bool.not_eq_false] at h2
   rw [h2]; simp

/-! ### a line of words -/
end Go.Proofs.YtdmemibnphcedaaGreatDoor
