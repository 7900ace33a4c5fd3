/-
  Lines in plain words: blanks, words, quotes, numbers. (No program in sight.)
-/
import Derived.Lib.Walk
set_option linter.unusedSimpArgs false
set_option linter.unusedVariables false
set_option maxRecDepth 10000
namespace Go.Proofs.YtjomiadmminhfaaGreatDoor

def prn (c : UInt8) : Bool := decide (32 ≤ c.toNat) && decide (c.toNat ≤ 126)
def Pr (L : List UInt8) (a b : Nat) : Prop := ∀ i, a ≤ i → i < b → ∀ c, L[i]? = some c → prn c = true
theorem Pr.split {L : List UInt8} {a b c : Nat} (h : Pr L a b) (k : Pr L b c) : Pr L a c := fun i hi hc x hx => by
 by_cases e : i < b
 ·exact h i hi e x hx
 ·exact k i (by omega) hc x hx
theorem Pr.one {L : List UInt8} {a : Nat} {c : UInt8} (h : L[a]? = some c) (hc : prn c = true) : Pr L a (a + 1) := fun i hi hl x hx => by
 obtain rfl : i = a := by omega
 rw [h] at hx; cases hx; exact hc

/-! ### blanks -/
def skip : List UInt8 → Nat
 | [] => 0
 | c :: r => if c = 32 then skip r + 1 else 0
def blk (L : List UInt8) (p : Nat) : Nat := p + skip (L.drop p)
theorem blk_hit {L : List UInt8} {p : Nat} (h : L[p]? = some 32) : blk L p = blk L (p + 1) := by
 obtain ⟨hl, he⟩ := List.getElem?_eq_some_iff.1 h
 unfold blk
 rw [List.drop_eq_getElem_cons hl, he]
 simp only [skip, if_true]
 omega
theorem blk_stop {L : List UInt8} {p : Nat} (h : L[p]? ≠ some 32) : blk L p = p := by
 unfold blk
 cases hd : L.drop p with
 | nil => rfl
 | cons c r =>
  have : L[p]? = some c := by
   have := congrArg (·[0]?) hd
   simpa using this
  rw [this] at h
  simp only [skip]
  rw [if_neg (fun e => h (by rw [e]))]
  rfl
theorem blk_spec (L : List UInt8) : ∀ (n p : Nat), L.length - p = n → p ≤ L.length → p ≤ blk L p ∧ blk L p ≤ L.length ∧ L[blk L p]? ≠ some 32 ∧ ∀ i, p ≤ i → i < blk L p → L[i]? = some 32
 | n, p, hn, hp => by
  by_cases h : L[p]? = some 32
  ·obtain ⟨hl, _⟩ := List.getElem?_eq_some_iff.1 h
   obtain ⟨k1, k2, k3, k4⟩ := blk_spec L (L.length - (p + 1)) (p + 1) rfl (by omega)
   rw [blk_hit h]
   refine ⟨by omega, k2, k3, fun i hi hb => ?_⟩
   by_cases e : i = p
   ·rw [e]; exact h
   ·exact k4 i (by omega) hb
  ·rw [blk_stop h]
   exact ⟨Nat.le_refl _, hp, h, fun i h1 h2 => by omega⟩
 termination_by n => n
theorem blk_le {L : List UInt8} {p : Nat} (hp : p ≤ L.length) : p ≤ blk L p ∧ blk L p ≤ L.length := by
 obtain ⟨k1, k2, _⟩ := blk_spec L _ p rfl hp
 exact ⟨k1, k2⟩
theorem blk_end {L : List UInt8} {p : Nat} (hp : p ≤ L.length) : L[blk L p]? ≠ some 32 := (blk_spec L _ p rfl hp).2.2.1
theorem blk_pr {L : List UInt8} {p : Nat} (hp : p ≤ L.length) : Pr L p (blk L p) := fun i h1 h2 c hc => by
 rw [(blk_spec L _ p rfl hp).2.2.2 i h1 h2] at hc
 cases hc
 rfl
/-! ### words without quotes -/
def pw : List UInt8 → Nat
 | [] => 0
 | c :: r => if c = 32 ∨ c = 61 then 0 else pw r + 1
def pwE (L : List UInt8) (e : Nat) : Nat := e + pw (L.drop e)
theorem pwE_hit {L : List UInt8} {p : Nat} {c : UInt8} (h : L[p]? = some c) (h1 : c ≠ 32) (h2 : c ≠ 61) : pwE L p = pwE L (p + 1) := by
 obtain ⟨hl, he⟩ := List.getElem?_eq_some_iff.1 h
 unfold pwE
 rw [List.drop_eq_getElem_cons hl, he]
 simp only [pw]
 rw [if_neg (by rintro (e | e); exact h1 e; exact h2 e)]
 omega
theorem pwE_stop {L : List UInt8} {p : Nat} (h : ∀ c, L[p]? = some c → c = 32 ∨ c = 61) : pwE L p = p := by
 unfold pwE
 cases hd : L.drop p with
 | nil => rfl
 | cons c r =>
  have : L[p]? = some c := by
   have := congrArg (·[0]?) hd
   simpa using this
  simp only [pw]
  rw [if_pos (h c this)]
  rfl
theorem pwE_spec (L : List UInt8) : ∀ (n p : Nat), L.length - p = n → p ≤ L.length → p ≤ pwE L p ∧ pwE L p ≤ L.length
 | n, p, hn, hp => by
  by_cases hl : p < L.length
  ·by_cases h : L[p] = 32 ∨ L[p] = 61
   ·rw [pwE_stop (fun c hc => by rw [List.getElem?_eq_getElem hl] at hc; cases hc; exact h)]
    omega
   ·simp only [not_or] at h
    obtain ⟨k1, k2⟩ := pwE_spec L (L.length - (p + 1)) (p + 1) rfl (by omega)
    rw [pwE_hit (List.getElem?_eq_getElem hl) h.1 h.2]
    omega
  ·rw [pwE_stop (fun c hc => by have := (List.getElem?_eq_some_iff.1 hc).1; omega)]
   omega
 termination_by n => n
theorem pwE_le {L : List UInt8} {p : Nat} (hp : p ≤ L.length) : p ≤ pwE L p ∧ pwE L p ≤ L.length := pwE_spec L _ p rfl hp
theorem pwE_lt {L : List UInt8} {p : Nat} {c : UInt8} (h : L[p]? = some c) (h1 : c ≠ 32) (h2 : c ≠ 61) : p < pwE L p ∧ pwE L p ≤ L.length := by
 obtain ⟨hl, _⟩ := List.getElem?_eq_some_iff.1 h
 rw [pwE_hit h h1 h2]
 have := pwE_le (L := L) (p := p + 1) (by omega)
 omega

/-! ### words in quotes: the text, and how many bytes it takes with the quote at its end -/
def quo : List UInt8 → Option (List UInt8 × Nat)
 | [] => none
 | [c] => if c = 34 then some ([], 1) else none
 | c :: d :: r =>
  if c = 34 then (if d = 32 ∨ d = 61 then some ([], 1) else none)
  else if prn c = false then none
  else if c = 42 ∧ (d = 34 ∨ d = 42) then (quo r).map fun x => (d :: x.1, x.2 + 2)
  else if c = 42 ∧ d = 110 then (quo r).map fun x => (10 :: x.1, x.2 + 2)
  else (quo (d :: r)).map fun x => (c :: x.1, x.2 + 1)
theorem quo_pr : ∀ (l : List UInt8) (s : List UInt8) (k : Nat), quo l = some (s, k) → 1 ≤ k ∧ k ≤ l.length ∧ ∀ i, i < k → ∀ c, l[i]? = some c → prn c = true
 | [], s, k, h => by simp [quo] at h
 | [c], s, k, h => by
  simp only [quo] at h
  split at h
  ·rename_i hc
   cases h
   refine ⟨Nat.le_refl _, Nat.le_refl _, fun i hi x hx => ?_⟩
   obtain rfl : i = 0 := by omega
   simp at hx; subst hx; rw [hc]; rfl
  ·cases h
 | c :: d :: r, s, k, h => by
  simp only [quo] at h
  split at h
  ·rename_i hc
   split at h
   ·cases h
    refine ⟨Nat.le_refl _, by simp, fun i hi x hx => ?_⟩
    obtain rfl : i = 0 := by omega
    simp at hx; subst hx; rw [hc]; rfl
   ·cases h
  ·split at h
   ·cases h
   ·rename_i hp
    have hp' : prn c = true := by simpa using hp
    split at h
    ·rename_i hd
     simp only [Option.map_eq_some_iff] at h
     obtain ⟨⟨s', k'⟩, h1, h2⟩ := h
     cases h2
     obtain ⟨q1, q2, q3⟩ := quo_pr r s' k' h1
     refine ⟨by omega, by simp; omega, fun i hi x hx => ?_⟩
     match i with
     | 0 => simp at hx; subst hx; exact hp'
     | 1 => simp at hx; subst hx; rcases hd.2 with e | e <;> rw [e] <;> rfl
     | i + 2 => exact q3 i (by simp only at hi; omega) x (by simpa using hx)
    ·split at h
     ·rename_i hd
      simp only [Option.map_eq_some_iff] at h
      obtain ⟨⟨s', k'⟩, h1, h2⟩ := h
      cases h2
      obtain ⟨q1, q2, q3⟩ := quo_pr r s' k' h1
      refine ⟨by omega, by simp; omega, fun i hi x hx => ?_⟩
      match i with
      | 0 => simp at hx; subst hx; exact hp'
      | 1 => simp at hx; subst hx; rw [hd.2]; rfl
      | i + 2 => exact q3 i (by simp only at hi; omega) x (by simpa using hx)
     ·simp only [Option.map_eq_some_iff] at h
      obtain ⟨⟨s', k'⟩, h1, h2⟩ := h
      cases h2
      obtain ⟨q1, q2, q3⟩ := quo_pr (d :: r) s' k' h1
      refine ⟨by omega, by simp at q2 ⊢; omega, fun i hi x hx => ?_⟩
      match i with
      | 0 => simp at hx; subst hx; exact hp'
      | i + 1 => exact q3 i (by simp only at hi; omega) x (by simpa using hx)

/-! ### the next word -/
inductive Wd where
 | fin
 | bad (fr : Nat)
 | wd (s : List UInt8) (q : Bool) (fr to : Nat)
def nxt (L : List UInt8) (at' : Nat) : Wd :=
 match L[blk L at']? with
 | none => .fin
 | some c =>
  if c = 61 then .wd [61] false (blk L at') (blk L at' + 1)
  else if c = 34 then (match quo (L.drop (blk L at' + 1)) with
   | some x => .wd x.1 true (blk L at') (blk L at' + 1 + x.2)
   | none => .bad (blk L at'))
  else if ((L.drop (blk L at')).take (pw (L.drop (blk L at')))).all prn then .wd ((L.drop (blk L at')).take (pw (L.drop (blk L at')))) false (blk L at') (pwE L (blk L at'))
  else .bad (blk L at')
theorem nxt_fin {L : List UInt8} {p : Nat} (hp : p ≤ L.length) : nxt L p = .fin ↔ blk L p = L.length := by
 have h2 := (blk_le hp).2
 unfold nxt
 constructor
 ·intro h
  split at h
  ·rename_i hn
   rw [List.getElem?_eq_none_iff] at hn
   omega
  ·split at h
   ·cases h
   ·split at h
    ·split at h <;> cases h
    ·split at h <;> cases h
 ·intro h
  rw [h, List.getElem?_eq_none (Nat.le_refl _)]
theorem nxt_wd {L : List UInt8} {p : Nat} {s : List UInt8} {q : Bool} {fr to : Nat} (hp : p ≤ L.length) (h : nxt L p = .wd s q fr to) : fr = blk L p ∧ p ≤ fr ∧ fr < to ∧ to ≤ L.length ∧ Pr L p to := by
 have hb := blk_pr hp
 obtain ⟨b1, b2⟩ := blk_le hp
 unfold nxt at h
 split at h
 ·cases h
 ·rename_i c hc
  have hl := (List.getElem?_eq_some_iff.1 hc).1
  split at h
  ·rename_i he
   cases h
   exact ⟨rfl, b1, Nat.lt_succ_self _, hl, hb.split (Pr.one hc (by rw [he]; rfl))⟩
  ·rename_i h61
   split at h
   ·rename_i h34
    split at h
    ·rename_i x hx
     cases h
     obtain ⟨q1, q2, q3⟩ := quo_pr _ x.1 x.2 hx
     rw [List.length_drop] at q2
     refine ⟨rfl, b1, by omega, by omega, hb.split ((Pr.one hc (by rw [h34]; rfl)).split fun i h1 h2 y hy => ?_)⟩
     refine q3 (i - (blk L p + 1)) (by omega) y ?_
     rw [List.getElem?_drop, show blk L p + 1 + (i - (blk L p + 1)) = i by omega]
     exact hy
    ·cases h
   ·split at h
    ·rename_i hall
     cases h
     have h32 : c ≠ 32 := fun e => blk_end hp (by rw [hc, e])
     obtain ⟨w1, w2⟩ := pwE_lt hc h32 h61
     refine ⟨rfl, b1, w1, w2, hb.split fun i h1 h2 y hy => ?_⟩
     rw [List.all_eq_true] at hall
     refine hall y ?_
     unfold pwE at h2
     have : ((L.drop (blk L p)).take (pw (L.drop (blk L p))))[i - blk L p]? = some y := by
      rw [List.getElem?_take_of_lt (by omega), List.getElem?_drop, show blk L p + (i - blk L p) = i by omega]
      exact hy
     exact List.mem_of_getElem? this
    ·cases h
theorem nxt_bad {L : List UInt8} {p fr : Nat} (hp : p ≤ L.length) (h : nxt L p = .bad fr) : fr = blk L p ∧ p ≤ fr ∧ fr < L.length ∧ Pr L p fr := by
 have hb := blk_pr hp
 obtain ⟨b1, b2⟩ := blk_le hp
 unfold nxt at h
 split at h
 ·cases h
 ·rename_i c hc
  have hl := (List.getElem?_eq_some_iff.1 hc).1
  split at h
  ·cases h
  ·split at h
   ·split at h
    ·cases h
    ·cases h; exact ⟨rfl, b1, hl, hb⟩
   ·split at h
    ·cases h
    ·cases h; exact ⟨rfl, b1, hl, hb⟩

/-- the place behind a sign -/
def eqA (L : List UInt8) (p : Nat) : Nat :=
 if L[blk L p]? = some 61 then blk L p + 1 else p
theorem eqA_le {L : List UInt8} {p : Nat} (hp : p ≤ L.length) : p ≤ eqA L p ∧ eqA L p ≤ L.length ∧ Pr L p (eqA L p) := by
 obtain ⟨b1, b2⟩ := blk_le hp
 unfold eqA
 split
 ·rename_i h
  have hl := (List.getElem?_eq_some_iff.1 h).1
  exact ⟨by omega, hl, (blk_pr hp).split (Pr.one h rfl)⟩
 ·exact ⟨Nat.le_refl _, hp, fun i h1 h2 => by omega⟩

/-! ### the rest of a line -/
def trimE (l : List UInt8) : List UInt8 := (l.reverse.dropWhile (· == 32)).reverse

/-! ### numbers -/
def neg (s : List UInt8) : Bool :=
 match s with
 | [] => false
 | c :: _ => decide (c = 45)
end Go.Proofs.YtjomiadmminhfaaGreatDoor
