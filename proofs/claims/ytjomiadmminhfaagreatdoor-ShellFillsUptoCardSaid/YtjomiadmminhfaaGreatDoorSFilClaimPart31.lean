/-
  Where a quote ends, and blanks around a text: by the program and by the chapter.
  The commands of a line: in plain words, by the program and by the chapter.
  The commands of a line, by the chapter.
  Where the words of a command begin: in plain words, by the program and by the chapter.
-/
import Derived.Test.YtjomiadmminhfaaGreatDoorSFilClaimPart30
import Derived.Lib.TrimByte
section
set_option linter.unusedSimpArgs false
set_option linter.unusedVariables false
set_option maxRecDepth 10000
set_option linter.unusedSectionVars false
namespace Go.Proofs.YtjomiadmminhfaaGreatDoor
open Go.Am

/-- how far the end of a quote is -/
def qend : List UInt8 → Option Nat
 | [] => none
 | [c] => if c = 34 then some 1 else none
 | c :: d :: r => if c = 34 then some 1 else if c = 42 then (qend r).map (· + 2) else (qend (d :: r)).map (· + 1)
theorem qend_q (r : List UInt8) : qend (34 :: r) = some 1 := by cases r <;> rfl
theorem qend_star (d : UInt8) (r : List UInt8) : qend (42 :: d :: r) = (qend r).map (· + 2) := rfl
theorem qend_oth {c : UInt8} (r : List UInt8) (h1 : c ≠ 34) (h2 : c ≠ 42) : qend (c :: r) = (qend r).map (· + 1) := by
 cases r with
 | nil => simp [qend, h1]
 | cons d r => simp only [qend, if_neg h1, if_neg h2]
/-- where a quote ends; -1: it does not -/
def qeA (L : List UInt8) (i : Nat) : Int := match qend (L.drop i) with
 | none => -1
 | some n => ((i + n : Nat) : Int)
section
variable {L : List UInt8} {i : Nat} {c d : UInt8}
theorem drop_at (h : L[i]? = some c) : L.drop i = c :: L.drop (i + 1) := by
 obtain ⟨h1, h2⟩ := List.getElem?_eq_some_iff.1 h
 rw [List.drop_eq_getElem_cons h1, h2]
end

attribute [local irreducible] callO wopK ropK popK opK grpsE listE sx Runs

section
variable {st : St} {K : Value → St → Prop}

/-! ### blanks around -/
end
end Go.Proofs.YtjomiadmminhfaaGreatDoor
end
section
set_option linter.unusedSimpArgs false
set_option linter.unusedVariables false
set_option maxRecDepth 10000
set_option linter.unusedSectionVars false
namespace Go.Proofs.YtjomiadmminhfaaGreatDoor
open Go.Am

section
variable {L : List UInt8} {i fr : Nat} {b : Bool} {c : UInt8}
end

theorem bs_list (l : List UInt8) : (bs l).data.toList = l := by simp [bs]
theorem bs_ne {l : List UInt8} : (bs l = ByteArray.empty) ↔ l = [] := by
 constructor
 ·intro h
  have := congrArg (fun x : ByteArray => x.data.toList) h
  rw [bs_list] at this
  exact this
 ·rintro rfl; rfl
def strs (l : List (List UInt8)) : List Value := l.map fun x => .string (bs x)

/-- while a line is split: the line, the commands so far, where the next one begins -/
structure SI (s0 st : St) (s : ByteArray) (fr : Nat) (l : List (List UInt8)) : Prop where
 nx : s0.next + 3 ≤ st.next
 r1 : st.get s0.next = some (.row [.string s] 0 false)
 r5 : st.get (s0.next + 2) = some (.row [.int .i64 (fr : Nat)] 0 false)
 out : ∃ v, st.get (s0.next + 1) = some (.row [v] 0 false) ∧ GroK 1 st v (strs l) l.length ∧ (ow v = 0 ∨ s0.next + 4 ≤ ow v) ∧ ow v ≤ st.next ∧ oneCell v = true
 old : ∀ i, i < s0.next → st.get i = s0.get i

theorem SI.frm {s0 st : St} {s : ByteArray} {fr : Nat} {l : List (List UInt8)} (h : SI s0 st s fr l) : Frm s0 st := ⟨by have := h.nx; omega, h.old⟩
attribute [local irreducible] callO wopK ropK popK opK grpsE listE sx Runs

section
variable {st s0 : St} {K : Value → St → Prop} {s : ByteArray} {fr : Nat} {l : List (List UInt8)}

end
end Go.Proofs.YtjomiadmminhfaaGreatDoor
end
section
set_option linter.unusedSimpArgs false
set_option linter.unusedVariables false
set_option maxRecDepth 10000
set_option linter.unusedSectionVars false
namespace Go.Proofs.YtjomiadmminhfaaGreatDoor
open Go.Am
attribute [local irreducible] callO wopK ropK popK opK grpsE listE sx Runs

section
variable {st s0 : St} {K : Value → St → Prop} {s : ByteArray} {fr : Nat} {l : List (List UInt8)}

/-- the rows that were there stay; the commands so far -/
structure SR (s0 st : St) (v : Value) (l : List (List UInt8)) : Prop where
 out : GroK 1 st v (strs l) l.length
 o1 : ow v = 0 ∨ s0.next + 1 ≤ ow v
 o2 : ow v ≤ st.next
 frm : Frm s0 st
 one : oneCell v = true
theorem SR.app {v : Value} (hI : SR s0 st v l) (p : List UInt8) (hl : l.length ≤ 100000) {W : Value → St → Prop}
  (hW : ∀ v2 s2, SR s0 s2 v2 (l ++ [p]) → W v2 s2) : wopK (.append 1 16) [v, .slice (some ⟨st.next, 0, none⟩) 1 1] (st.new (.row [.string (bs p)] 0 false)) W := by
 obtain ⟨q5, q6, q7, q9, q8⟩ := hI
 have nx := q9.nx
 refine appendK (n := l.length) (q5.keep fun i hi => get_new_ne _ _ _ (by omega)) (get_new_same _ _) rfl (by decide) rfl (by omega) (by omega) fun s5 a1 a2 a3 => ?_
 have e5 : s5.next = st.next + 2 := a2
 have fr5 : ∀ i, i + 1 ≠ ow v → i < st.next → s5.get i = st.get i := fun i h1 h2 => (a3 i h1 (by show i < st.next + 1; omega)).trans (get_new_ne _ _ _ (by omega))
 refine hW _ _ ⟨?_, ?_, ?_, ⟨by omega, fun i hi => (fr5 i (by omega) (by omega)).trans (q9.old i hi)⟩, rfl⟩
 ·have hS : strs (l ++ [p]) = strs l ++ [.string (bs p)] := by simp [strs]
  rw [hS, List.length_append]
  exact a1
 ·right
  show s0.next + 1 ≤ st.next + 1 + 1
  omega
 ·show st.next + 1 + 1 ≤ s5.next
  omega
end
end Go.Proofs.YtjomiadmminhfaaGreatDoor
end
section
set_option linter.unusedSimpArgs false
set_option linter.unusedVariables false
set_option maxRecDepth 10000
set_option linter.unusedSectionVars false
namespace Go.Proofs.YtjomiadmminhfaaGreatDoor
open Go.Am

/-- where words begin, from a place on -/
inductive PlR (L : List UInt8) : Nat → List Nat → Prop
 | fin {p : Nat} : nxt L p = .fin → PlR L p []
 | wd {p : Nat} {s : List UInt8} {q : Bool} {fr to : Nat} {r : List Nat} : nxt L p = .wd s q fr to → PlR L to r → PlR L p (fr :: r)
theorem WsR.places {L : List UInt8} {p : Nat} {r : Option (List (List UInt8 × Bool))} (h : WsR L p r) : ∀ l, r = some l → ∃ ps, PlR L p ps ∧ ps.length = l.length := by
 induction h with
 | fin h => intro l e; cases e; exact ⟨[], .fin h, rfl⟩
 | bad h => intro l e; cases e
 | wd h k ih =>
  intro l e
  rw [Option.map_eq_some_iff] at e
  obtain ⟨l', e1, rfl⟩ := e
  obtain ⟨ps, h1, h2⟩ := ih l' e1
  exact ⟨_ :: ps, .wd h h1, by simp [h2]⟩
theorem quo_qend : ∀ (n : Nat) (l : List UInt8) (x : List UInt8 × Nat), l.length ≤ n → quo l = some x → qend l = some x.2
 | _, [], x, _, h => by simp [quo] at h
 | _, [c], x, _, h => by
  simp only [quo] at h
  simp only [qend]
  by_cases hc : c = 34
  ·rw [if_pos hc] at h ⊢; cases h; rfl
  ·rw [if_neg hc] at h; cases h
 | 0, c :: d :: r, x, hn, h => by simp at hn
 | n + 1, c :: d :: r, x, hn, h => by
  simp only [List.length_cons] at hn
  simp only [quo] at h
  by_cases hc : c = 34
  ·subst hc
   rw [if_pos rfl] at h
   split at h
   ·cases h; rw [qend_q]
   ·cases h
  rw [if_neg hc] at h
  by_cases hp : prn c = false
  ·rw [if_pos hp] at h; cases h
  rw [if_neg hp] at h
  by_cases h1 : c = 42 ∧ (d = 34 ∨ d = 42)
  ·rw [if_pos h1] at h
   simp only [Option.map_eq_some_iff] at h
   obtain ⟨y, hy, rfl⟩ := h
   rw [h1.1, qend_star, quo_qend n r y (by omega) hy]
   rfl
  rw [if_neg h1] at h
  by_cases h2 : c = 42 ∧ d = 110
  ·rw [if_pos h2] at h
   simp only [Option.map_eq_some_iff] at h
   obtain ⟨y, hy, rfl⟩ := h
   rw [h2.1, qend_star, quo_qend n r y (by omega) hy]
   rfl
  rw [if_neg h2] at h
  simp only [Option.map_eq_some_iff] at h
  obtain ⟨y, hy, rfl⟩ := h
  have ih := quo_qend n (d :: r) y (by simp only [List.length_cons]; omega) hy
  by_cases h42 : c = 42
  ·subst h42
   have hd : d ≠ 34 ∧ d ≠ 42 := ⟨fun e => h1 ⟨rfl, .inl e⟩, fun e => h1 ⟨rfl, .inr e⟩⟩
   rw [qend_oth r hd.1 hd.2] at ih
   rw [qend_star]
   cases hr : qend r with
   | none => rw [hr] at ih; cases ih
   | some k =>
    rw [hr] at ih
    simp only [Option.map_some, Option.some.injEq] at ih ⊢
    omega
  ·rw [qend_oth _ hc h42, ih]
   rfl
theorem PlR.hit {L : List UInt8} {p : Nat} {r : List Nat} (h : PlR L p r) (hp : L[p]? = some 32) : PlR L (p + 1) r := by
 have e : nxt L p = nxt L (p + 1) := by unfold nxt; rw [blk_hit hp]
 cases h with
 | fin h => exact .fin (by rw [← e]; exact h)
 | wd h k => exact .wd (by rw [← e]; exact h) k
theorem PlR.end {L : List UInt8} {p : Nat} {r : List Nat} (h : PlR L p r) (hp : L.length ≤ p) : r = [] := by
 have hn : L[p]? = none := List.getElem?_eq_none hp
 have e : nxt L p = .fin := by
  unfold nxt
  rw [blk_stop (by rw [hn]; intro e; cases e), hn]
 cases h with
 | fin h => rfl
 | wd h k => rw [e] at h; cases h
/-- a word: what it is told by -/
theorem PlR.word {L : List UInt8} {p : Nat} {r : List Nat} {c : UInt8} (h : PlR L p r) (hc : L[p]? = some c) (h32 : c ≠ 32) : ∃ (to : Nat) (r' : List Nat), r = p :: r' ∧ PlR L to r' ∧ p < to ∧ to ≤ L.length ∧ (c = 61 → to = p + 1) ∧ (c = 34 → qeA L (p + 1) = (to : Int)) ∧ (c ≠ 61 → c ≠ 34 → to = pwE L p) := by
 have hlt := (List.getElem?_eq_some_iff.1 hc).1
 have hb : blk L p = p := blk_stop (by rw [hc]; intro e; cases e; exact h32 rfl)
 cases h with
 | fin h =>
  have := (nxt_fin (Nat.le_of_lt hlt)).1 h
  omega
 | wd h k =>
  rename_i s q fr to r'
  obtain ⟨n1, n2, n3, n4, _⟩ := nxt_wd (Nat.le_of_lt hlt) h
  rw [hb] at n1
  subst n1
  refine ⟨to, r', rfl, k, n3, n4, fun e => ?_, fun e => ?_, fun e1 e2 => ?_⟩
  ·unfold nxt at h
   rw [hb, hc] at h
   simp only at h
   rw [if_pos e] at h
   cases h; rfl
  ·unfold nxt at h
   rw [hb, hc] at h
   simp only at h
   rw [if_neg (by rw [e]; decide), if_pos e] at h
   split at h
   ·rename_i x hx
    cases h
    unfold qeA
    rw [quo_qend _ _ x (Nat.le_refl _) hx]
   ·cases h
  ·unfold nxt at h
   rw [hb, hc] at h
   simp only at h
   rw [if_neg e1, if_neg e2] at h
   split at h
   ·cases h; rfl
   ·cases h

def ints (l : List Nat) : List Value := l.map fun x => .int .i64 (x : Nat)
/-- a row that grows, all that was there before staying -/
structure RG (s0 st : St) (v : Value) (cs : List Value) : Prop where
 out : GroK 1 st v cs cs.length
 o1 : ow v = 0 ∨ s0.next + 1 ≤ ow v
 o2 : ow v ≤ st.next
 frm : Frm s0 st
 one : oneCell v = true
theorem RG.nil (st : St) : RG st st (.slice none 0 0) [] := ⟨GroK.nil _ _, .inl rfl, Nat.zero_le _, Frm.refl _, rfl⟩
section
variable {st s0 : St} {v : Value} {cs : List Value}
theorem RG.app (hI : RG s0 st v cs) (x : Value) (hx : oneCell x = true) (hl : cs.length ≤ 100000) {b : Nat} (hb : b ≤ 16) {W : Value → St → Prop}
  (hW : ∀ v2 s2, RG s0 s2 v2 (cs ++ [x]) → W v2 s2) : wopK (.append 1 b) [v, .slice (some ⟨st.next, 0, none⟩) 1 1] (st.new (.row [x] 0 false)) W := by
 obtain ⟨q5, q6, q7, q9, q8⟩ := hI
 have nx := q9.nx
 have hbn : (cs.length + 1) * b ≤ 100001 * 16 := Nat.mul_le_mul (by omega) hb
 refine appendK (n := cs.length) (q5.keep fun i hi => get_new_ne _ _ _ (by omega)) (get_new_same _ _) rfl (by decide) (by simp [hx]) (by omega) (by omega) fun s5 a1 a2 a3 => ?_
 have e5 : s5.next = st.next + 2 := a2
 have fr5 : ∀ i, i + 1 ≠ ow v → i < st.next → s5.get i = st.get i := fun i h1 h2 => (a3 i h1 (by show i < st.next + 1; omega)).trans (get_new_ne _ _ _ (by omega))
 refine hW _ _ ⟨?_, ?_, ?_, ⟨by omega, fun i hi => (fr5 i (by omega) (by omega)).trans (q9.old i hi)⟩, rfl⟩
 ·rw [List.length_append]
  exact a1
 ·right
  show s0.next + 1 ≤ st.next + 1 + 1
  omega
 ·show st.next + 1 + 1 ≤ s5.next
  omega
end

attribute [local irreducible] callO wopK ropK popK opK grpsE listE sx Runs

section
variable {st s0 : St} {K : Value → St → Prop} {s : ByteArray}

end
end Go.Proofs.YtjomiadmminhfaaGreatDoor
end
