/-
  The library's replacer of bytes: what it is built of.
-/
import Derived.Test.YtjomiadmminhfaaGreatDoorSFilClaimPart19
set_option linter.unusedSimpArgs false
set_option linter.unusedVariables false
set_option maxRecDepth 10000
set_option linter.unusedSectionVars false
namespace Go.Proofs.YtjomiadmminhfaaGreatDoor
open Go.Am

def tabR (f : Nat → Value) (l : Value) : List Value := (List.range 256).map f ++ [l]
section
variable {f : Nat → Value} {l v : Value} {K : Value → Prop}
end

attribute [local irreducible] callO wopK ropK popK opK grpsE listE sx Runs

section
variable {st : St} {K : Value → St → Prop}

end

/-! behind the build -/
/-- what a byte becomes -/
def escB (c : UInt8) : List UInt8 := if c = 10 then [42, 110] else if c = 34 then [42, 34] else if c = 42 then [42, 42] else [c]

/-- the row of a replacer that is built -/
structure RepF (lo : Nat) (st : St) (t : Nat) : Prop where
 lt : lo ≤ t
 tn : t < st.next
 row : ∃ f tr, st.get t = some (.row (tabR f (.slice (some ⟨tr, 0, none⟩) 3 3)) 0 false) ∧ lo ≤ tr ∧ tr < st.next ∧ st.get tr = some (.row [.string ⟨#[10]⟩, .string ⟨#[34]⟩, .string ⟨#[42]⟩] 0 false) ∧
  (∀ c : UInt8, (c = 10 ∨ c = 34 ∨ c = 42) → ∃ a g, f c.toNat = .slice (some ⟨a, 0, none⟩) 2 2 ∧ lo ≤ a ∧ a < st.next ∧ st.get a = some (.row ((escB c).map u8v) g false)) ∧
  ∀ c : UInt8, c ≠ 10 → c ≠ 34 → c ≠ 42 → f c.toNat = .slice none 0 0

theorem RepF.keep {lo : Nat} {st st' : St} {t : Nat} (h : RepF lo st t) (hn : st.next ≤ st'.next) (hk : ∀ i, lo ≤ i → i < st.next → st'.get i = st.get i) : RepF lo st' t := by
 obtain ⟨f, tr, h1, h2, h3, h4, h5, h6⟩ := h.row
 have hlt := h.lt
 have htn := h.tn
 refine ⟨hlt, by omega, f, tr, (hk t hlt htn).trans h1, h2, by omega, (hk tr h2 h3).trans h4, fun c hc => ?_, h6⟩
 obtain ⟨a, g, k1, k2, k3, k4⟩ := h5 c hc
 exact ⟨a, g, k1, k2, by omega, (hk a k2 k3).trans k4⟩

section
variable {st : St} {K : Value → St → Prop}

end
end Go.Proofs.YtjomiadmminhfaaGreatDoor
