/-
  The chapter's Words, and ArgsWords on the second machine.
-/
import Derived.Test.YtdmemibnphcedaaGreatDoorRQtsClaimPart29
import Derived.Test.YtdmemibnphcedaaGreatDoorRQtsClaimPart30
import Derived.Test.YtdmemibnphcedaaGreatDoorRQtsClaimPart34
set_option linter.unusedSimpArgs false
set_option linter.unusedVariables false
set_option maxRecDepth 10000
set_option linter.unusedSectionVars false
namespace Go.Proofs.YtdmemibnphcedaaGreatDoor
open Go.Am

theorem pr_fin {L : List UInt8} {p : Nat} (hp : p ≤ L.length) (h : nxt L p = .fin) : Pr L p L.length := by
  have := blk_pr hp
  rw [(nxt_fin hp).1 h] at this
  exact this
theorem WsR.pr {L : List UInt8} {p : Nat} {r : Option (List (List UInt8 × Bool))} (h : WsR L p r) : p ≤ L.length → ∀ l, r = some l → Pr L p L.length := by
  induction h with
  | fin h => intro hp l _; exact pr_fin hp h
  | bad h => intro hp l e; cases e
  | wd h k ih =>
    intro hp l e
    rw [Option.map_eq_some_iff] at e
    obtain ⟨l', e1, _⟩ := e
    obtain ⟨_, _, _, n4, n5⟩ := nxt_wd hp h
    exact n5.split (ih n4 l' e1)
theorem pr_all {L : List UInt8} (h : Pr L 0 L.length) : L.all prn = true := by
  rw [List.all_eq_true]
  intro c hc
  obtain ⟨i, hi, rfl⟩ := List.getElem_of_mem hc
  exact h i (Nat.zero_le _) hi _ (List.getElem?_eq_getElem hi)

theorem WO.of_some {s : ByteArray} {l : List (List UInt8 × Bool)} (hs : s.size ≤ 1000) (h : WsR s.data.toList 0 (some l)) : WO s l 0 := by
  refine .inr (.inr ⟨?_, wordsO_eq h, rfl⟩)
  unfold readA
  rw [if_neg (by omega), if_pos (pr_all (h.pr (Nat.zero_le _) l rfl))]
attribute [local irreducible] callO wopK ropK popK opK grpsE listE sx Runs

section
variable {st : St} {K : Value → St → Prop}

end
end Go.Proofs.YtdmemibnphcedaaGreatDoor
