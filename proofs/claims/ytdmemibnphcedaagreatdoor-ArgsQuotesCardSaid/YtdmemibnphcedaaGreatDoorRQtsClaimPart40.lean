/-
  ArgsWords on the second machine.
-/
import Derived.Test.YtdmemibnphcedaaGreatDoorRQtsClaimPart35
import Derived.Test.YtdmemibnphcedaaGreatDoorRQtsClaimPart39
set_option linter.unusedSimpArgs false
set_option linter.unusedVariables false
set_option maxRecDepth 10000
set_option linter.unusedSectionVars false
namespace Go.Proofs.YtdmemibnphcedaaGreatDoor
open Go.Am
attribute [local irreducible] callO wopK ropK popK opK grpsE listE sx Runs

section
variable {st : St} {K : Value → St → Prop}

theorem WO.len {s : ByteArray} {l : List (List UInt8 × Bool)} {e : Int} (hs : s.size ≤ 80000) (h : WO s l e) (hx : ∃ r, WsR s.data.toList 0 r) : l.length ≤ s.size := by
  have go : ∀ {L : List UInt8} {p : Nat} {r : Option (List (List UInt8 × Bool))}, WsR L p r → p ≤ L.length → ∀ l, r = some l → p + l.length ≤ L.length := by
    intro L p r h
    induction h with
    | fin h => intro hp l e; cases e; simpa using hp
    | bad h => intro hp l e; cases e
    | wd h k ih =>
      intro hp l e
      rw [Option.map_eq_some_iff] at e
      obtain ⟨l', e1, rfl⟩ := e
      obtain ⟨_, n2, n3, n4, _⟩ := nxt_wd hp h
      have := ih n4 l' e1
      simp
      omega
  rcases h with ⟨_, rfl, _⟩ | ⟨_, _, rfl, _⟩ | ⟨_, h2, _⟩
  · simp
  · simp
  · obtain ⟨r, hr⟩ := hx
    have := wordsO_eq hr
    rw [h2] at this
    have := go hr (Nat.zero_le _) l this.symm
    rw [size_list]
    omega

end
end Go.Proofs.YtdmemibnphcedaaGreatDoor
