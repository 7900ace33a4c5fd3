/-
  Fill, in plain words: an item is looked for at each <. (No program in sight.)
-/
import Derived.Test.YtjomiadmminhfaaGreatDoorSFilClaimPart17
set_option linter.unusedSimpArgs false
set_option linter.unusedVariables false
set_option maxRecDepth 10000
namespace Go.Proofs.YtjomiadmminhfaaGreatDoor
open Go.Am

def sml (c : UInt8) : Bool := decide (97 ≤ c.toNat) && decide (c.toNat ≤ 122)
def no62 (c : UInt8) : Bool := !(c == 62)
def no36 (c : UInt8) : Bool := !(c == 36)
theorem sml_no {c : UInt8} (h : sml c = true) : no62 c = true ∧ no36 c = true := by
 unfold sml at h
 simp only [Bool.and_eq_true, decide_eq_true_eq] at h
 unfold no62 no36
 refine ⟨?_, ?_⟩ <;> (simp only [Bool.not_eq_true', beq_eq_false_iff_ne]; intro e; subst e; revert h; decide)
theorem tw_app {p : UInt8 → Bool} : ∀ {a b : List UInt8}, (∀ x ∈ a, p x = true) → (a ++ b).takeWhile p = a ++ b.takeWhile p ∧ (a ++ b).dropWhile p = b.dropWhile p
 | [], b, _ => ⟨rfl, rfl⟩
 | x :: a, b, h => by
  have h0 := h x (by simp)
  obtain ⟨h1, h2⟩ := tw_app (a := a) (b := b) fun y hy => h y (by simp [hy])
  simp [List.takeWhile_cons, List.dropWhile_cons, h0, h1, h2]
theorem tw_all {p : UInt8 → Bool} : ∀ {l : List UInt8} {x : UInt8}, x ∈ l.takeWhile p → p x = true
 | [], x, h => by simp at h
 | y :: l, x, h => by
  rw [List.takeWhile_cons] at h
  split at h
  ·rename_i hy
   rcases List.mem_cons.1 h with rfl | h
   ·exact hy
   ·exact tw_all h
  ·simp at h
theorem dropW_head {p : UInt8 → Bool} : ∀ {l : List UInt8} {x : UInt8} {r : List UInt8}, l.dropWhile p = x :: r → p x = false
 | [], x, r, h => by simp at h
 | y :: l, x, r, h => by
  rw [List.dropWhile_cons] at h
  split at h
  ·exact dropW_head h
  ·rename_i hy
   injection h with h1 h2
   rw [← h1]
   simpa using hy

/-- the chapter's item: r is what stands behind <; none: it is no item -/
def itemL (val : List UInt8 → Option (List UInt8 → List UInt8)) (r : List UInt8) : Option (List UInt8 × List UInt8) :=
 match r.dropWhile sml with
 | [] => none
 | c :: r' =>
  if c = 62 then (val (r.takeWhile sml)).map fun f => (f [], r')
  else if c = 36 then match r'.dropWhile no62 with
   | [] => none
   | _ :: rest => (val (r.takeWhile sml)).map fun f => (f (r'.takeWhile no62), rest)
  else none
/-- the program's item -/
def itemP (val : List UInt8 → Option (List UInt8 → List UInt8)) (r : List UInt8) : Option (List UInt8 × List UInt8) :=
 match r.dropWhile no62 with
 | [] => none
 | _ :: rest =>
  if ((r.takeWhile no62).takeWhile no36).all sml = true then (val ((r.takeWhile no62).takeWhile no36)).map fun f => (f (((r.takeWhile no62).dropWhile no36).drop 1), rest) else none
theorem item_same (val : List UInt8 → Option (List UInt8 → List UInt8)) (r : List UInt8) : itemP val r = itemL val r := by
 have hr : r = r.takeWhile sml ++ r.dropWhile sml := (List.takeWhile_append_dropWhile).symm
 have ha : ∀ x ∈ r.takeWhile sml, sml x = true := fun x hx => tw_all hx
 have ha1 : ∀ x ∈ r.takeWhile sml, no62 x = true := fun x hx => (sml_no (ha x hx)).1
 have ha2 : ∀ x ∈ r.takeWhile sml, no36 x = true := fun x hx => (sml_no (ha x hx)).2
 have hal : (r.takeWhile sml).all sml = true := List.all_eq_true.2 ha
 unfold itemP itemL
 have hh := @dropW_head sml r
 generalize r.takeWhile sml = a at hr ha ha1 ha2 hal
 generalize r.dropWhile sml = b at hr hh
 subst hr
 obtain ⟨t1, d1⟩ := tw_app (b := b) ha1
 rw [t1, d1]
 obtain ⟨t2, d2⟩ := tw_app (b := b.takeWhile no62) ha2
 rw [t2, d2]
 cases b with
 | nil => simp
 | cons c r' =>
  have hc := hh rfl
  by_cases h62 : c = 62
  ·subst h62
   have e : no62 62 = false := by decide
   simp [List.takeWhile_cons, List.dropWhile_cons, e, hal]
  ·have e1 : no62 c = true := by simp [no62, h62]
   by_cases h36 : c = 36
   ·subst h36
    have e : no36 36 = false := by decide
    simp only [List.takeWhile_cons, List.dropWhile_cons, e1, e, if_true, h62, if_false, List.append_nil, List.drop_succ_cons, List.drop_zero, Bool.false_eq_true, hal]
   ·have e2 : no36 c = true := by simp [no36, h36]
    simp only [List.takeWhile_cons, List.dropWhile_cons, e1, e2, if_true, h62, h36, if_false]
    have : (a ++ c :: (List.takeWhile no36 (List.takeWhile no62 r'))).all sml = false := by
     rw [List.all_append, List.all_cons, hc]
     simp
    rw [this]
    cases r'.dropWhile no62 <;> simp
theorem itemL_len {val : List UInt8 → Option (List UInt8 → List UInt8)} {r v rest : List UInt8} (h : itemL val r = some (v, rest)) : rest.length < r.length := by
 rw [← item_same] at h
 unfold itemP at h
 have hr : r = r.takeWhile no62 ++ r.dropWhile no62 := (List.takeWhile_append_dropWhile).symm
 have hl := congrArg List.length hr
 rw [List.length_append] at hl
 cases hd : r.dropWhile no62 with
 | nil => rw [hd] at h; cases h
 | cons x r' =>
  rw [hd] at h hl
  simp only [List.length_cons] at hl
  simp only at h
  by_cases hq : ((r.takeWhile no62).takeWhile no36).all sml = true
  ·rw [if_pos hq] at h
   simp only [Option.map_eq_some_iff, Prod.mk.injEq] at h
   obtain ⟨f, _, _, e⟩ := h
   rw [← e]
   omega
  ·rw [if_neg hq] at h
   cases h
/-- a line that is filled -/
def fillL (val : List UInt8 → Option (List UInt8 → List UInt8)) : List UInt8 → List UInt8
 | [] => []
 | c :: r =>
  if c = 60 then match h : itemL val r with
   | some (v, rest) => v ++ fillL val rest
   | none => 60 :: fillL val r
  else c :: fillL val r
termination_by l => l.length
decreasing_by
 ·have := itemL_len h
  simp only [List.length_cons]
  omega
 ·simp
 ·simp
/-- a line without < stays -/
theorem fillL_no (val : List UInt8 → Option (List UInt8 → List UInt8)) : ∀ (l : List UInt8), (60 : UInt8) ∉ l → fillL val l = l
 | [], _ => by rw [fillL]
 | c :: r, h => by
  simp only [List.mem_cons, not_or] at h
  rw [fillL, if_neg (fun e => h.1 e.symm), fillL_no val r h.2]
end Go.Proofs.YtjomiadmminhfaaGreatDoor
