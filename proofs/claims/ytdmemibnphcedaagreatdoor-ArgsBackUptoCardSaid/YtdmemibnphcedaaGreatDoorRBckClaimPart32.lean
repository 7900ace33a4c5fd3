/-
  Words written in quotes and read again, in plain words. (No program in sight.)
-/
import Derived.Test.YtdmemibnphcedaaGreatDoorRBckClaimPart30
import Derived.Test.YtdmemibnphcedaaGreatDoorRBckClaimPart31
set_option linter.unusedSimpArgs false
set_option linter.unusedVariables false
set_option maxRecDepth 10000
namespace Go.Proofs.YtdmemibnphcedaaGreatDoor
open Go.Am

/-- a byte that a word may have -/
def okB (c : UInt8) : Bool := decide (c.toNat = 10) || prn c
theorem okB_keep {c : UInt8} (h : okB c = true) : qB c = c := by
 unfold okB prn at h
 simp only [Bool.or_eq_true, Bool.and_eq_true, decide_eq_true_eq] at h
 exact qB_keep h
theorem map_qB : ∀ {l : List UInt8}, l.all okB = true → l.map qB = l
 | [], _ => rfl
 | c :: l, h => by
  rw [List.all_cons, Bool.and_eq_true] at h
  rw [List.map_cons, okB_keep h.1, map_qB h.2]
theorem okB_prn {c : UInt8} (h : okB c = true) (h1 : c ≠ 10) : prn c = true := by
 unfold okB at h
 rw [Bool.or_eq_true] at h
 rcases h with h | h
 ·exact absurd (UInt8.toNat_inj.1 (of_decide_eq_true h)) h1
 ·exact h

/-- what stands behind a word -/
def behind (r : List UInt8) : Prop := r = [] ∨ ∃ d r', r = d :: r' ∧ (d = 32 ∨ d = 61)

theorem quo_esc_all {r : List UInt8} (hr : behind r) : ∀ (l : List UInt8), l.all okB = true → quo (escL l ++ 34 :: r) = some (l, (escL l).length + 1)
 | [], _ => by
  rcases hr with rfl | ⟨d, r', rfl, hd⟩
  ·rfl
  ·show quo (34 :: d :: r') = _
   simp only [quo, if_true]
   rw [if_pos hd]; rfl
 | c :: l, h => by
  rw [List.all_cons, Bool.and_eq_true] at h
  have ih := quo_esc_all hr l h.2
  have e0 : escL (c :: l) = escB c ++ escL l := rfl
  rw [e0, List.append_assoc]
  by_cases h10 : c = 10
  ·subst h10
   show quo (42 :: 110 :: (escL l ++ 34 :: r)) = _
   simp only [quo]
   rw [if_neg (by decide), if_neg (by decide), if_neg (by decide), if_pos (by decide), ih]
   simp only [Option.map_some, List.length_append, Option.some.injEq, Prod.mk.injEq, true_and]
   show (escL l).length + 1 + 2 = 2 + (escL l).length + 1
   omega
  ·by_cases h34 : c = 34
   ·subst h34
    show quo (42 :: 34 :: (escL l ++ 34 :: r)) = _
    simp only [quo]
    rw [if_neg (by decide), if_neg (by decide), if_pos (by decide), ih]
    simp only [Option.map_some, List.length_append, Option.some.injEq, Prod.mk.injEq, true_and]
    show (escL l).length + 1 + 2 = 2 + (escL l).length + 1
    omega
   ·by_cases h42 : c = 42
    ·subst h42
     show quo (42 :: 42 :: (escL l ++ 34 :: r)) = _
     simp only [quo]
     rw [if_neg (by decide), if_neg (by decide), if_pos (by decide), ih]
     simp only [Option.map_some, List.length_append, Option.some.injEq, Prod.mk.injEq, true_and]
     show (escL l).length + 1 + 2 = 2 + (escL l).length + 1
     omega
    ·have e1 : escB c = [c] := by unfold escB; rw [if_neg h10, if_neg h34, if_neg h42]
     rw [e1]
     have hp := okB_prn h.1 h10
     have : ∃ d r', escL l ++ 34 :: r = d :: r' := by
      cases hh : escL l with
      | nil => exact ⟨34, r, rfl⟩
      | cons d r' => exact ⟨d, r' ++ 34 :: r, rfl⟩
     obtain ⟨d, r', hd⟩ := this
     rw [hd] at ih ⊢
     show quo (c :: d :: r') = _
     simp only [quo]
     rw [if_neg h34, if_neg (by rw [hp]; decide), if_neg (fun hh => h42 hh.1), if_neg (fun hh => h42 hh.1), ih]
     simp only [Option.map_some, List.length_append, Option.some.injEq, Prod.mk.injEq, true_and]
     show (escL l).length + 1 + 1 = 1 + (escL l).length + 1
     omega

theorem skip_rep (r : List UInt8) (hr : ∀ c, r.head? = some c → c ≠ 32) : ∀ n, skip (List.replicate n 32 ++ r) = n
 | 0 => by
  cases r with
  | nil => rfl
  | cons c r => simp only [List.replicate_zero, List.nil_append, skip]; rw [if_neg (hr c rfl)]
 | n + 1 => by
  rw [List.replicate_succ, List.cons_append]
  simp only [skip, if_true, skip_rep r hr n]
theorem pw_all {r : List UInt8} (hr : behind r) : ∀ (l : List UInt8), l.any spc = false → pw (l ++ r) = l.length
 | [], _ => by
  rcases hr with rfl | ⟨d, r', rfl, hd⟩
  ·rfl
  ·simp only [List.nil_append, pw]; rw [if_pos hd]; rfl
 | c :: l, h => by
  rw [List.any_cons, Bool.or_eq_false_iff] at h
  have h1 : c ≠ 32 := fun e => by rw [e] at h; exact absurd h.1 (by decide)
  have h2 : c ≠ 61 := fun e => by rw [e] at h; exact absurd h.1 (by decide)
  rw [List.cons_append]
  simp only [pw]
  rw [if_neg (by rintro (e | e); exact h1 e; exact h2 e), pw_all hr l h.2]
  rfl

/-- is the word written in quotes -/
def isQ (l : List UInt8) : Bool := !(decide (l ≠ []) && !(l.any spc))
theorem quoteL_ok {l : List UInt8} (h : l.all okB = true) : quoteL l = if isQ l = true then 34 :: (escL l ++ [34]) else l := by
 unfold quoteL isQ
 rw [map_qB h]
 by_cases h1 : l = []
 ·subst h1; rfl
 ·by_cases h2 : l.any spc = false
  ·rw [if_pos ⟨h1, h2⟩, h2]; simp [h1]
  ·rw [if_neg (fun hh => h2 hh.2)]
   rw [Bool.not_eq_false] at h2
   rw [h2]; simp

theorem at_drop {L l : List UInt8} {p : Nat} (h : L.drop p = l) : L[p]? = l.head? := by
 rw [← h, List.head?_drop]
theorem drop_drop' {L l r : List UInt8} {p n : Nat} (h : L.drop p = l ++ r) (hn : l.length = n) : L.drop (p + n) = r := by
 rw [← List.drop_drop, h, ← hn, List.drop_left]

/-- a text in quotes is read again -/
theorem nxt_quoted {L r : List UInt8} {p n : Nat} (w : List UInt8) (hw : w.all okB = true) (hr : behind r) (h : L.drop p = List.replicate n 32 ++ (34 :: (escL w ++ [34]) ++ r)) :
  nxt L p = .wd w true (p + n) (p + n + (34 :: (escL w ++ [34])).length) := by
 have hb : blk L p = p + n := by
  unfold blk
  rw [h, skip_rep _ (fun c hc => by cases hc; decide)]
 have hd : L.drop (p + n) = 34 :: (escL w ++ 34 :: r) := by
  rw [drop_drop' h (by simp)]; simp
 have hd1 : L.drop (p + n + 1) = escL w ++ 34 :: r := by
  rw [← List.drop_drop, hd]; rfl
 unfold nxt
 rw [hb, at_drop hd]
 simp only [List.head?_cons]
 rw [if_neg (by decide), if_pos trivial, hd1, quo_esc_all hr w hw]
 simp only [Wd.wd.injEq, true_and, List.length_cons, List.length_append, List.length_nil]
 omega
/-- a plain word is read again -/
theorem nxt_plain {L r : List UInt8} {p n : Nat} (w : List UInt8) (hw : w.all okB = true) (h0 : w ≠ []) (hs : w.any spc = false) (hr : behind r) (h : L.drop p = List.replicate n 32 ++ (w ++ r)) :
  nxt L p = .wd w false (p + n) (p + n + w.length) := by
 obtain ⟨c, w', rfl⟩ : ∃ c w', w = c :: w' := by
  cases w with
  | nil => exact (h0 rfl).elim
  | cons c w' => exact ⟨c, w', rfl⟩
 have hc := hs
 rw [List.any_cons, Bool.or_eq_false_iff] at hc
 have c32 : c ≠ 32 := fun e => by rw [e] at hc; exact absurd hc.1 (by decide)
 have c61 : c ≠ 61 := fun e => by rw [e] at hc; exact absurd hc.1 (by decide)
 have c34 : c ≠ 34 := fun e => by rw [e] at hc; exact absurd hc.1 (by decide)
 have hb : blk L p = p + n := by
  unfold blk
  rw [h, skip_rep _ (fun d hd => by cases hd; exact c32)]
 have hd : L.drop (p + n) = c :: w' ++ r := drop_drop' h (by simp)
 have hpw : pw (L.drop (p + n)) = (c :: w').length := by rw [hd, pw_all hr _ hs]
 have hpr : (c :: w').all prn = true := by
  rw [List.all_eq_true]
  intro d hd'
  rw [List.all_eq_true] at hw
  refine okB_prn (hw d hd') fun e => ?_
  rw [List.any_eq_false] at hs
  exact hs d hd' (by rw [e]; decide)
 unfold nxt
 rw [hb, at_drop hd]
 simp only [List.cons_append, List.head?_cons]
 unfold pwE
 rw [if_neg c61, if_neg c34, hpw, hd, List.take_left, if_pos hpr]
/-- what Quote writes is read again -/
theorem nxt_quote {L r : List UInt8} {p n : Nat} (w : List UInt8) (hw : w.all okB = true) (hr : behind r) (h : L.drop p = List.replicate n 32 ++ (quoteL w ++ r)) :
  nxt L p = .wd w (isQ w) (p + n) (p + n + (quoteL w).length) := by
 rw [quoteL_ok hw] at h ⊢
 by_cases hq : isQ w = true
 ·rw [if_pos hq] at h ⊢
  rw [hq]
  exact nxt_quoted w hw hr h
 ·rw [if_neg hq] at h ⊢
  have hq' : isQ w = false := by simpa using hq
  have : w ≠ [] ∧ w.any spc = false := by
   unfold isQ at hq'
   simpa using hq'
  rw [hq']
  exact nxt_plain w hw this.1 this.2 hr h

/-! ### a line of words -/
end Go.Proofs.YtdmemibnphcedaaGreatDoor
