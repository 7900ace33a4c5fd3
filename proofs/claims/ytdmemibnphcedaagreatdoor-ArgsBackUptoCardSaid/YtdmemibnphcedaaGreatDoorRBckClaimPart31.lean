/-
  The words of a line, in plain words; what the program's next and readable come to where nothing else is known.
-/
import Derived.Test.YtdmemibnphcedaaGreatDoorRBckClaimPart26
set_option linter.unusedSimpArgs false
set_option linter.unusedVariables false
set_option maxRecDepth 10000
set_option linter.unusedSectionVars false
namespace Go.Proofs.YtdmemibnphcedaaGreatDoor
open Go.Am
open Go.RowKit (Below)

/-- the words from a place on, or the error -/
inductive WsR (L : List UInt8) : Nat → Option (List (List UInt8 × Bool)) → Prop
 | fin {p : Nat} : nxt L p = .fin → WsR L p (some [])
 | bad {p fr : Nat} : nxt L p = .bad fr → WsR L p none
 | wd {p : Nat} {s : List UInt8} {q : Bool} {fr to : Nat} {r : Option (List (List UInt8 × Bool))} : nxt L p = .wd s q fr to → WsR L to r → WsR L p (r.map ((s, q) :: ·))
theorem WsR.unique {L : List UInt8} : ∀ {p : Nat} {r r' : Option (List (List UInt8 × Bool))}, WsR L p r → WsR L p r' → r = r' := by
 intro p r r' h
 induction h generalizing r' with
 | fin h =>
  intro k
  cases k with
  | fin _ => rfl
  | bad k => rw [h] at k; cases k
  | wd k _ => rw [h] at k; cases k
 | bad h =>
  intro k
  cases k with
  | fin k => rw [h] at k; cases k
  | bad _ => rfl
  | wd k _ => rw [h] at k; cases k
 | wd h _ ih =>
  intro k
  cases k with
  | fin k => rw [h] at k; cases k
  | bad k => rw [h] at k; cases k
  | wd k k2 => rw [h] at k; cases k; rw [ih k2]

/-- a word as the program's iterator gives it: text, place, quoted -/
abbrev WV := ByteArray × Int × Bool
/-- the words between two places -/
inductive Path (L : List UInt8) : List WV → Nat → Prop
 | nil : Path L [] 0
 | snoc {pre : List WV} {p : Nat} {s : List UInt8} {q : Bool} {fr to : Nat} : Path L pre p → nxt L p = .wd s q fr to → Path L (pre ++ [(bs s, (fr : Int), q)]) to
theorem Path.le {L : List UInt8} {pre : List WV} {p : Nat} (h : Path L pre p) : p ≤ L.length ∧ pre.length ≤ p ∧ ∀ x ∈ pre, 0 ≤ x.2.1 := by
 induction h with
 | nil => exact ⟨Nat.zero_le _, Nat.le_refl _, fun x hx => by cases hx⟩
 | snoc h hn ih =>
  obtain ⟨i1, i2, i3⟩ := ih
  obtain ⟨k1, k2, k3, k4, _⟩ := nxt_wd i1 hn
  refine ⟨k4, by simp; omega, fun x hx => ?_⟩
  rcases List.mem_append.1 hx with hx | hx
  ·exact i3 x hx
  ·simp at hx; subst hx; exact Int.natCast_nonneg _
/-- the words that a list of words shows -/
def shows (pre : List WV) : List (List UInt8 × Bool) := pre.map fun x => (x.1.data.toList, x.2.2)
theorem Path.ws {L : List UInt8} {pre : List WV} {p : Nat} (h : Path L pre p) : ∀ {r}, WsR L p r → WsR L 0 (r.map (shows pre ++ ·)) := by
 induction h with
 | nil => intro r hr; cases r <;> simpa [shows] using hr
 | snoc h hn ih =>
  intro r hr
  have := ih (.wd hn hr)
  cases r with
  | none => simpa using this
  | some r => simpa [shows, bs] using this

attribute [local irreducible] callO

end Go.Proofs.YtdmemibnphcedaaGreatDoor
