/-
  Where a quote ends, and blanks around a text: by the program and by the chapter.
  The commands of a line: in plain words, by the program and by the chapter.
  The commands of a line, by the chapter.
  Where the words of a command begin: in plain words, by the program and by the chapter.
-/
import Derived.Test.YtjomiadmminhfaaGreatDoorSSplClaimPart28
import Derived.Lib.TrimByte
section
set_option linter.unusedSimpArgs false
set_option linter.unusedVariables false
set_option maxRecDepth 10000
set_option linter.unusedSectionVars false
namespace Go.Proofs.YtjomiadmminhfaaGreatDoor
open Go.Am

/-- how far the end of a quote is -/
def qend : List UInt8 → Option Nat
 | [] => none
 | [c] => if c = 34 then some 1 else none
 | c :: d :: r => if c = 34 then some 1 else if c = 42 then (qend r).map (· + 2) else (qend (d :: r)).map (· + 1)
theorem qend_q (r : List UInt8) : qend (34 :: r) = some 1 := by cases r <;> rfl
theorem qend_star (d : UInt8) (r : List UInt8) : qend (42 :: d :: r) = (qend r).map (· + 2) := rfl
theorem qend_oth {c : UInt8} (r : List UInt8) (h1 : c ≠ 34) (h2 : c ≠ 42) : qend (c :: r) = (qend r).map (· + 1) := by
 cases r with
 | nil => simp [qend, h1]
 | cons d r => simp only [qend, if_neg h1, if_neg h2]
/-- where a quote ends; -1: it does not -/
def qeA (L : List UInt8) (i : Nat) : Int := match qend (L.drop i) with
 | none => -1
 | some n => ((i + n : Nat) : Int)
section
variable {L : List UInt8} {i : Nat} {c d : UInt8}
theorem drop_at (h : L[i]? = some c) : L.drop i = c :: L.drop (i + 1) := by
 obtain ⟨h1, h2⟩ := List.getElem?_eq_some_iff.1 h
 rw [List.drop_eq_getElem_cons h1, h2]
theorem qeA_end (h : L.length ≤ i) : qeA L i = -1 := by unfold qeA; rw [List.drop_eq_nil_of_le h]; rfl
theorem qeA_q (h : L[i]? = some 34) : qeA L i = ((i + 1 : Nat) : Int) := by unfold qeA; rw [drop_at h, qend_q]
theorem qeA_oth (h : L[i]? = some c) (h1 : c ≠ 34) (h2 : c ≠ 42) : qeA L i = qeA L (i + 1) := by
 unfold qeA
 rw [drop_at h, qend_oth _ h1 h2]
 cases qend (L.drop (i + 1)) with
 | none => rfl
 | some n => simp; omega
theorem qeA_star (h : L[i]? = some 42) : qeA L i = qeA L (i + 2) := by
 by_cases h1 : i + 1 < L.length
 ·unfold qeA
  rw [drop_at h, drop_at (List.getElem?_eq_getElem h1), qend_star]
  cases qend (L.drop (i + 1 + 1)) with
  | none => rfl
  | some n => simp; omega
 ·rw [qeA_end (i := i + 2) (by omega)]
  unfold qeA
  rw [drop_at h, List.drop_eq_nil_of_le (by omega)]
  rfl
theorem qeA_one (h : L[i]? = some 42) (h1 : ∀ d, L[i + 1]? = some d → d ≠ 34 ∧ d ≠ 42) : qeA L i = qeA L (i + 1) := by
 rw [qeA_star h]
 by_cases hl : i + 1 < L.length
 ·have hd := List.getElem?_eq_getElem hl
  obtain ⟨k1, k2⟩ := h1 _ hd
  rw [qeA_oth hd k1 k2]
 ·rw [qeA_end (i := i + 1) (by omega), qeA_end (i := i + 2) (by omega)]
theorem qeA_range (i : Nat) (hi : i ≤ L.length) : qeA L i = -1 ∨ ((i : Int) < qeA L i ∧ qeA L i ≤ (L.length : Int)) := by
 have go : ∀ (n : Nat) (l : List UInt8), l.length ≤ n → ∀ m, qend l = some m → 1 ≤ m ∧ m ≤ l.length := by
  intro n
  induction n with
  | zero =>
   intro l hl m hm
   have : l = [] := List.length_eq_zero_iff.1 (by omega)
   subst this
   cases hm
  | succ n ih =>
   intro l hl m hm
   match l, hl, hm with
   | [c], hl, hm =>
    simp only [qend] at hm
    split at hm
    ·cases hm; simp
    ·cases hm
   | c :: d :: r, hl, hm =>
    simp only [qend] at hm
    simp only [List.length_cons] at hl
    split at hm
    ·cases hm; simp
    ·split at hm
     ·simp only [Option.map_eq_some_iff] at hm
      obtain ⟨k, hk, rfl⟩ := hm
      have := ih r (by omega) k hk
      simp only [List.length_cons]; omega
     ·simp only [Option.map_eq_some_iff] at hm
      obtain ⟨k, hk, rfl⟩ := hm
      have := ih (d :: r) (by simp only [List.length_cons]; omega) k hk
      simp only [List.length_cons] at this ⊢; omega
 unfold qeA
 cases h : qend (L.drop i) with
 | none => exact .inl rfl
 | some n =>
  have := go _ _ (Nat.le_refl _) n h
  rw [List.length_drop] at this
  right
  simp only
  omega
end

attribute [local irreducible] callO wopK ropK popK opK grpsE listE sx Runs

section
variable {st : St} {K : Value → St → Prop}

theorem kQEnd (n : Nat) (s : ByteArray) (hs : s.size ≤ 90000) (p : Nat) (hp : p < s.size) (h : K (.int .i64 (qeA s.data.toList (p + 1))) st) : callK (callO T0 orc fns 100000 (n + 1)) 16 [.string s, .int .i64 (p : Nat)] st K := by
 refine fn_runs (fn := g16) ?_ ?_ ?_
 ·rfl
 ·rfl
 unfold g16
 have hsz := size_list s
 simp (disch := omega) only [↓sxA, ↓wk_store, sxB, sxP, simprocAttr]
 refine loop_rule [0, 5] (fun vs st' => st' = st ∧ ∃ j : Nat, vs = [.string s, .int .i64 (j : Nat)] ∧ j ≤ s.size + 1 ∧ qeA s.data.toList j = qeA s.data.toList (p + 1)) (fun vs _ => match lget vs 1 with
   | .int _ k => ((s.size : Int) + 1 - k).toNat
   | _ => 0) ?_ ?_ ?_
 ·rfl
 ·refine ⟨_, rfl, ⟨rfl, p + 1, by simp, by omega, rfl⟩, ?_⟩
  show ((s.size : Int) + 1 - ((p : Int) + 1)).toNat < 100000
  omega
 ·rintro vs st' ⟨rfl, j, rfl, j1, j2⟩
  show sx _ _ _ _ _ [(0, _), (5, _)] _ _ _ _
  by_cases hj : j < s.size
  ·obtain ⟨c, hc, hg, hb⟩ := byte_at s j hj
   simp (disch := omega) only [q_indexStr, Int.toNat_natCast, hg, ↓sxA, ↓wk_store, sxB, sxP, simprocAttr]
   refine iteI (fun c1 => ?_) (fun c1 => iteI (fun c2 => ?_) (fun c2 => ?_))
   ·rw [← j2, qeA_q (by rw [hc, u8_eq (n := 34) c1]; rfl)] at h
    exact h
   ·have e42 : s.data.toList[j]? = some 42 := by rw [hc, u8_eq (n := 42) c2]; rfl
    have k2 := qeA_star e42
    refine iteI (fun c3 => ?_) (fun c3 => ?_)
    ·obtain ⟨d, hd, hgd, hbd⟩ := byte_at s (j + 1) (by omega)
     have e1 : ((j : Int) + 1).toNat = j + 1 := by omega
     simp only [e1, hgd]
     have two : ∃ j', ([.string s, .int .i64 ((j : Int) + 1 + 1)] : List Value) = [.string s, .int .i64 ((j' : Nat) : Int)] ∧ j' ≤ s.size + 1 ∧ qeA s.data.toList j' = qeA s.data.toList (p + 1) := ⟨j + 2, by simp; omega, by omega, by rw [← k2, j2]⟩
     refine iteI (fun c4 => ?_) (fun c4 => iteI (fun c5 => ?_) (fun c5 => ?_))
     ·refine ⟨_, rfl, two, ?_⟩
      show ((s.size : Int) + 1 - ((j : Int) + 1 + 1)).toNat < ((s.size : Int) + 1 - j).toNat
      omega
     ·refine ⟨_, rfl, two, ?_⟩
      show ((s.size : Int) + 1 - ((j : Int) + 1 + 1)).toNat < ((s.size : Int) + 1 - j).toNat
      omega
     ·have k1 := qeA_one e42 (fun x hx => by
       rw [hd] at hx; cases hx
       exact ⟨fun e => c4 (by rw [e]; rfl), fun e => c5 (by rw [e]; rfl)⟩)
      refine ⟨_, rfl, ⟨j + 1, by simp, by omega, by rw [← k1, j2]⟩, ?_⟩
      show ((s.size : Int) + 1 - ((j : Int) + 1)).toNat < ((s.size : Int) + 1 - j).toNat
      omega
    ·have k1 := qeA_one e42 (fun x hx => by rw [byte_no s (j + 1) (by omega)] at hx; cases hx)
     refine ⟨_, rfl, ⟨j + 1, by simp, by omega, by rw [← k1, j2]⟩, ?_⟩
     show ((s.size : Int) + 1 - ((j : Int) + 1)).toNat < ((s.size : Int) + 1 - j).toNat
     omega
   ·have k1 := qeA_oth hc (fun e => c1 (by rw [e]; rfl)) (fun e => c2 (by rw [e]; rfl))
    refine ⟨_, rfl, ⟨j + 1, by simp, by omega, by rw [← k1, j2]⟩, ?_⟩
    show ((s.size : Int) + 1 - ((j : Int) + 1)).toNat < ((s.size : Int) + 1 - j).toNat
    omega
  ·rw [← j2, qeA_end (by omega)] at h
   simp (disch := omega) only [↓sxA, ↓wk_store, sxB, sxP, simprocAttr]
   exact h

theorem kQEndR (n : Nat) (s : ByteArray) (hs : s.size ≤ 90000) (p : Nat) (hp : p < s.size) (h : K (.int .i64 (qeA s.data.toList (p + 1))) st) : callK (callO T0 orc fns 100000 (n + 1)) 17 [.string s, .int .i64 (p : Nat)] st K := by
 refine fn_runs (fn := g17) ?_ ?_ ?_
 ·rfl
 ·rfl
 unfold g17
 have hsz := size_list s
 simp (disch := omega) only [↓sxA, ↓wk_store, sxB, sxP, simprocAttr]
 refine loop_rule [0, 5] (fun vs st' => st' = st ∧ ∃ j : Nat, vs = [.string s, .int .i64 (j : Nat)] ∧ j ≤ s.size + 1 ∧ qeA s.data.toList j = qeA s.data.toList (p + 1)) (fun vs _ => match lget vs 1 with
   | .int _ k => ((s.size : Int) + 1 - k).toNat
   | _ => 0) ?_ ?_ ?_
 ·rfl
 ·refine ⟨_, rfl, ⟨rfl, p + 1, by simp, by omega, rfl⟩, ?_⟩
  show ((s.size : Int) + 1 - ((p : Int) + 1)).toNat < 100000
  omega
 ·rintro vs st' ⟨rfl, j, rfl, j1, j2⟩
  show sx _ _ _ _ _ [(0, _), (5, _)] _ _ _ _
  by_cases hj : j < s.size
  ·obtain ⟨c, hc, hg, hb⟩ := byte_at s j hj
   simp (disch := omega) only [q_indexStr, Int.toNat_natCast, hg, ↓sxA, ↓wk_store, sxB, sxP, simprocAttr]
   refine iteI (fun c1 => ?_) (fun c1 => iteI (fun c2 => ?_) (fun c2 => ?_))
   ·have e42 : s.data.toList[j]? = some 42 := by rw [hc, u8_eq (n := 42) c1]; rfl
    have k2 := qeA_star e42
    refine ⟨_, rfl, ⟨j + 2, by simp; omega, by omega, by rw [← k2, j2]⟩, ?_⟩
    show ((s.size : Int) + 1 - ((j : Int) + 1 + 1)).toNat < ((s.size : Int) + 1 - j).toNat
    omega
   ·rw [← j2, qeA_q (by rw [hc, u8_eq (n := 34) c2]; rfl)] at h
    exact h
   ·have k1 := qeA_oth hc (fun e => c2 (by rw [e]; rfl)) (fun e => c1 (by rw [e]; rfl))
    refine ⟨_, rfl, ⟨j + 1, by simp, by omega, by rw [← k1, j2]⟩, ?_⟩
    show ((s.size : Int) + 1 - ((j : Int) + 1)).toNat < ((s.size : Int) + 1 - j).toNat
    omega
  ·rw [← j2, qeA_end (by omega)] at h
   simp (disch := omega) only [↓sxA, ↓wk_store, sxB, sxP, simprocAttr]
   exact h

/-! ### blanks around -/
def trm (L : List UInt8) : List UInt8 := Lib.trimB L 32
theorem trm_snoc (l : List UInt8) : trm (l ++ [32]) = trm l := by
 unfold trm Lib.trimB Lib.trimRightB
 rw [List.reverse_append]
 rfl
theorem trm_cons (l : List UInt8) : trm (32 :: l) = trm l := by
 have go : ∀ a : List UInt8, ((a ++ [32]).dropWhile (· == (32 : UInt8)) = [] ∧ a.dropWhile (· == (32 : UInt8)) = []) ∨ (a ++ [32]).dropWhile (· == (32 : UInt8)) = a.dropWhile (· == (32 : UInt8)) ++ [32] := by
  intro a
  induction a with
  | nil => exact .inl ⟨rfl, rfl⟩
  | cons x a ih =>
   by_cases hx : (x == (32 : UInt8)) = true
   ·simp only [List.cons_append, List.dropWhile_cons, hx, if_true]
    exact ih
   ·simp only [List.cons_append, List.dropWhile_cons, hx, if_false, Bool.false_eq_true]
    exact .inr trivial
 unfold trm Lib.trimB Lib.trimRightB Lib.trimLeftB
 rw [List.reverse_cons]
 rcases go l.reverse with ⟨h1, h2⟩ | h
 ·rw [h1, h2]
 ·rw [h, List.reverse_append]
  rfl
theorem trm_stop {l : List UInt8} (h1 : ∀ c, l[0]? = some c → c ≠ 32) (h2 : ∀ c, l.getLast? = some c → c ≠ 32) : trm l = l := by
 have hd : ∀ m : List UInt8, (∀ c, m[0]? = some c → c ≠ 32) → m.dropWhile (· == (32 : UInt8)) = m := by
  intro m hm
  cases m with
  | nil => rfl
  | cons x m =>
   have := hm x rfl
   rw [List.dropWhile_cons, if_neg (by simpa using this)]
 unfold trm Lib.trimB Lib.trimRightB Lib.trimLeftB
 rw [hd l.reverse (fun c hc => h2 c (by rw [List.getLast?_eq_head?_reverse, List.head?_eq_getElem?]; exact hc)), List.reverse_reverse, hd l h1]
theorem trimV_trm (s : ByteArray) : trimV s ⟨#[32]⟩ = bs (trm s.data.toList) := by
 show (⟨(Lib.trimS s.data.toList [32]).toArray⟩ : ByteArray) = _
 rw [Lib.trimS_one]
 rfl
theorem kTrim (n : Nat) (s : ByteArray) (hs : s.size ≤ 90000) (h : K (.string (bs (trm s.data.toList))) st) : callK (callO T0 orc fns 100000 n) 15 [.string s, .string ⟨#[32]⟩] st K := by
 rw [callO_none (by rfl)]
 have e : orc 15 [.string s, .string ⟨#[32]⟩] st = .ret (.string (trimV s ⟨#[32]⟩), st) := by
  rw [orc_eq (by decide)]
  have hk : asciiB ⟨#[32]⟩ = true := by decide
  have hz : (⟨#[32]⟩ : ByteArray).size < 4294967281 := by decide
  have hs' : s.size ≤ 4294967280 := by omega
  simp [orc1, hs', hk, hz]
 rw [trimV_trm] at e
 exact (propext (callK_ret (K := K) e)).mpr h

theorem snoc_at {l : List UInt8} {c : UInt8} {n : Nat} (hn : l.length = n) (h : l[n - 1]? = some c) : l = l.take (n - 1) ++ [c] := by
 subst hn
 have e := drop_at h
 rw [List.drop_eq_nil_of_le (i := l.length - 1 + 1) (by omega)] at e
 conv => lhs; rw [← List.take_append_drop (l.length - 1) l, e]
theorem kTrimR (n : Nat) (s : ByteArray) (hs : s.size ≤ 90000) (h : K (.string (bs (trm s.data.toList))) st) : callK (callO T0 orc fns 100000 (n + 1)) 18 [.string s] st K := by
 refine fn_runs (fn := g18) ?_ ?_ ?_
 ·rfl
 ·rfl
 unfold g18
 have hsz := size_list s
 simp (disch := omega) only [↓sxA, ↓wk_store, sxB, sxP, simprocAttr]
 refine loop_rule [0] (fun vs st' => st' = st ∧ ∃ t : ByteArray, vs = [.string t] ∧ t.size ≤ s.size ∧ trm t.data.toList = trm s.data.toList) (fun vs _ => match lget vs 0 with
   | .string k => k.size
   | _ => 0) ?_ ?_ ?_
 ·rfl
 ·refine ⟨_, rfl, ⟨rfl, s, rfl, Nat.le_refl _, rfl⟩, ?_⟩
  show s.size < 100000
  omega
 ·rintro vs st' ⟨rfl, t, rfl, j1, j2⟩
  show sx _ _ _ _ _ [(0, _)] _ _ _ _
  have htz := size_list t
  have hh : t.data.toList[0]? = some 32 ∨ ∀ c, t.data.toList[0]? = some c → c ≠ 32 := by
   by_cases e : t.data.toList[0]? = some 32
   ·exact .inl e
   ·exact .inr fun c hc e' => e (by rw [hc, e'])
  rcases hh with hh | hh
  ·have ht : 0 < t.size := by
    have := (List.getElem?_eq_some_iff.1 hh).1
    omega
   have hg : t.data.toList.getD 0 0 = 32 := by rw [List.getD_eq_getElem?_getD, hh, Option.getD_some]
   have a32 : (((32 : UInt8).toNat : Int) = 32) = True := eq_true (by decide)
   simp (disch := omega) only [q_indexStr, Int.toNat_zero, hg, a32, ↓sxA, ↓wk_store, sxB, sxP, simprocAttr]
   refine ⟨by omega, _, rfl, ⟨_, rfl, ?_, ?_⟩, ?_⟩
   ·rw [extract_bs, bs_size, List.length_take, List.length_drop]; omega
   ·rw [extract_bs, ← j2]
    show trm (List.take _ _) = _
    rw [List.take_of_length_le (by rw [List.length_drop]; omega)]
    have e := drop_at hh
    rw [List.drop_zero] at e
    rw [e]
    exact (trm_cons _).symm
   ·show (t.extract _ _).size < t.size
    rw [extract_bs, bs_size, List.length_take, List.length_drop]
    omega
  ·by_cases ht : 0 < t.size
   case' pos =>
    obtain ⟨c, hc, hg, hb⟩ := byte_at t 0 ht
    have hcc := hh c hc
    simp (disch := omega) only [q_indexStr, Int.toNat_zero, hg, ↓sxA, ↓wk_store, sxB, sxP, simprocAttr]
    refine iteI (fun c1 => absurd (u8_eq (n := 32) c1) hcc) (fun c1 => ?_)
    clear hc hg hb hcc c1
   case' neg =>
    simp (disch := omega) only [↓sxA, ↓wk_store, sxB, sxP, simprocAttr]
   all_goals
    clear ht
    refine loop_rule [0] (fun vs st1 => st1 = st' ∧ ∃ u : ByteArray, vs = [.string u] ∧ u.size ≤ s.size ∧ trm u.data.toList = trm s.data.toList ∧ ∀ c, u.data.toList[0]? = some c → c ≠ 32) (fun vs _ => match lget vs 0 with
     | .string k => k.size
     | _ => 0) ?_ ?_ ?_
    ·rfl
    ·refine ⟨_, rfl, ⟨rfl, t, rfl, j1, j2, hh⟩, ?_⟩
     show t.size < 100000
     omega
    ·rintro vs st1 ⟨rfl, u, rfl, i1, i2, i3⟩
     show sx _ _ _ _ _ [(0, _)] _ _ _ _
     have huz := size_list u
     by_cases hu : 0 < u.size
     ·obtain ⟨c, hc, hg, hb⟩ := byte_at u (u.size - 1) (by omega)
      have e1 : ((u.size : Int) - 1).toNat = u.size - 1 := by omega
      simp (disch := omega) only [q_indexStr, e1, hg, ↓sxA, ↓wk_store, sxB, sxP, simprocAttr]
      have hsn := snoc_at huz.symm hc
      refine iteI (fun c1 => ?_) (fun c1 => ?_)
      ·refine ⟨by omega, _, rfl, ⟨_, rfl, ?_, ?_, ?_⟩, ?_⟩
       ·rw [extract_bs, bs_size, List.length_take, List.length_drop]; omega
       ·rw [extract_bs, ← i2]
        show trm (List.take _ (List.drop 0 _)) = _
        rw [List.drop_zero, Nat.sub_zero]
        conv => rhs; rw [hsn, u8_eq (n := 32) c1]
        exact (trm_snoc _).symm
       ·rw [extract_bs]
        intro d hd
        refine i3 d ?_
        have hd' : (List.take (u.size - 1 - 0) (List.drop 0 u.data.toList))[0]? = some d := hd
        rw [List.drop_zero, List.getElem?_take] at hd'
        split at hd'
        ·exact hd'
        ·cases hd'
       ·show (u.extract _ _).size < u.size
        rw [extract_bs, bs_size, List.length_take, List.length_drop]
        omega
      ·have e := trm_stop i3 (fun d hd => by
        rw [List.getLast?_eq_getElem?, ← huz, hc] at hd
        cases hd
        exact fun e => c1 (by rw [e]; rfl))
       rw [← i2, e, bs_of] at h
       exact h
     ·have hnil : u.data.toList = [] := List.length_eq_zero_iff.1 (by omega)
      have e : trm u.data.toList = u.data.toList := by rw [hnil]; rfl
      rw [← i2, e, bs_of] at h
      simp (disch := omega) only [↓sxA, ↓wk_store, sxB, sxP, simprocAttr]
      exact h
end
end Go.Proofs.YtjomiadmminhfaaGreatDoor
end
section
set_option linter.unusedSimpArgs false
set_option linter.unusedVariables false
set_option maxRecDepth 10000
set_option linter.unusedSectionVars false
namespace Go.Proofs.YtjomiadmminhfaaGreatDoor
open Go.Am

def piece (L : List UInt8) (a b : Nat) : List UInt8 := trm ((L.drop a).take (b - a))
def cons1 (p : List UInt8) (r : List (List UInt8)) : List (List UInt8) := if p = [] then r else p :: r
theorem cons1_app (p : List UInt8) (a r : List (List UInt8)) : (a ++ cons1 p []) ++ r = a ++ cons1 p r := by
 unfold cons1
 split <;> simp
/-- the commands from a place on -/
def splA (L : List UInt8) (i fr : Nat) (b : Bool) : Option (List (List UInt8)) :=
 if h : i < L.length then
  if L[i] = 34 ∧ b = true then
   if hq : qeA L (i + 1) = -1 then none
   else splA L (qeA L (i + 1)).toNat fr false
  else if L[i] = 59 then (splA L (i + 1) (i + 1) true).map (cons1 (piece L fr i))
  else splA L (i + 1) fr (L[i] == 32 || L[i] == 61)
 else some (cons1 (piece L fr L.length) [])
termination_by L.length - i
decreasing_by
 ·have := qeA_range (L := L) (i + 1) (by omega)
  omega
 ·omega
 ·omega
section
variable {L : List UInt8} {i fr : Nat} {b : Bool} {c : UInt8}
theorem splA_end (h : L.length ≤ i) : splA L i fr b = some (cons1 (piece L fr L.length) []) := by
 rw [splA, dif_neg (by omega)]
theorem splA_bad (h : L[i]? = some 34) (hb : b = true) (hq : qeA L (i + 1) = -1) : splA L i fr b = none := by
 obtain ⟨h1, h2⟩ := List.getElem?_eq_some_iff.1 h
 rw [splA, dif_pos h1, if_pos ⟨h2, hb⟩, dif_pos hq]
theorem splA_quo (h : L[i]? = some 34) (hb : b = true) {e : Nat} (hq : qeA L (i + 1) = (e : Int)) : splA L i fr b = splA L e fr false := by
 obtain ⟨h1, h2⟩ := List.getElem?_eq_some_iff.1 h
 rw [splA, dif_pos h1, if_pos ⟨h2, hb⟩, dif_neg (by omega), hq]
 rfl
theorem splA_semi (h : L[i]? = some 59) : splA L i fr b = (splA L (i + 1) (i + 1) true).map (cons1 (piece L fr i)) := by
 obtain ⟨h1, h2⟩ := List.getElem?_eq_some_iff.1 h
 rw [splA, dif_pos h1, if_neg (by rw [h2]; rintro ⟨e, _⟩; exact absurd e (by decide)), if_pos h2]
theorem splA_oth (h : L[i]? = some c) (h1 : ¬ (c = 34 ∧ b = true)) (h2 : c ≠ 59) : splA L i fr b = splA L (i + 1) fr (c == 32 || c == 61) := by
 obtain ⟨h3, h4⟩ := List.getElem?_eq_some_iff.1 h
 rw [splA, dif_pos h3, if_neg (by rw [h4]; exact h1), if_neg (by rw [h4]; exact h2), h4]
end

theorem bs_list (l : List UInt8) : (bs l).data.toList = l := by simp [bs]
theorem bs_ne {l : List UInt8} : (bs l = ByteArray.empty) ↔ l = [] := by
 constructor
 ·intro h
  have := congrArg (fun x : ByteArray => x.data.toList) h
  rw [bs_list] at this
  exact this
 ·rintro rfl; rfl
def strs (l : List (List UInt8)) : List Value := l.map fun x => .string (bs x)

/-- while a line is split: the line, the commands so far, where the next one begins -/
structure SI (s0 st : St) (s : ByteArray) (fr : Nat) (l : List (List UInt8)) : Prop where
 nx : s0.next + 3 ≤ st.next
 r1 : st.get s0.next = some (.row [.string s] 0 false)
 r5 : st.get (s0.next + 2) = some (.row [.int .i64 (fr : Nat)] 0 false)
 out : ∃ v, st.get (s0.next + 1) = some (.row [v] 0 false) ∧ GroK 1 st v (strs l) l.length ∧ (ow v = 0 ∨ s0.next + 4 ≤ ow v) ∧ ow v ≤ st.next ∧ oneCell v = true
 old : ∀ i, i < s0.next → st.get i = s0.get i

theorem SI.frm {s0 st : St} {s : ByteArray} {fr : Nat} {l : List (List UInt8)} (h : SI s0 st s fr l) : Frm s0 st := ⟨by have := h.nx; omega, h.old⟩
theorem SI.put5 {s0 st : St} {s : ByteArray} {fr fr' : Nat} {l : List (List UInt8)} (h : SI s0 st s fr l) : SI s0 (st.put (s0.next + 2) (some (.row [.int .i64 (fr' : Nat)] 0 false))) s fr' l := by
 obtain ⟨q1, q2, q3, ⟨v, q4, q5, q6, q7, q8⟩, q9⟩ := h
 refine ⟨q1, (get_put_ne _ _ _ _ (by omega)).trans q2, get_put_same _ _ _, ⟨v, (get_put_ne _ _ _ _ (by omega)).trans q4, q5.keep fun i hi => get_put_ne _ _ _ _ (by omega), q6, q7, q8⟩, fun i hi => (get_put_ne _ _ _ _ (by omega)).trans (q9 i hi)⟩
attribute [local irreducible] callO wopK ropK popK opK grpsE listE sx Runs

section
variable {st s0 : St} {K : Value → St → Prop} {s : ByteArray} {fr : Nat} {l : List (List UInt8)}

set_option maxHeartbeats 1000000 in
theorem kPut (n : Nat) (hs : s.size ≤ 80000) (hI : SI s0 st s fr l) (e : Nat) (h1 : fr ≤ e) (h2 : e ≤ s.size) (hl : l.length ≤ s.size)
  (h : ∀ st', SI s0 st' s (e + 1) (l ++ cons1 (piece s.data.toList fr e) []) → K (.tuple #[]) st') :
  callK (callO T0 orc fns 100000 (n + 2)) 14 [.int .i64 (e : Nat), .pointer (some ⟨s0.next, 0, none⟩), .pointer (some ⟨s0.next + 2, 0, none⟩), .pointer (some ⟨s0.next + 1, 0, none⟩)] st K := by
 refine fn_runs (fn := g14) ?_ ?_ ?_
 ·rfl
 ·rfl
 unfold g14
 obtain ⟨q1, q2, q3, ⟨v, q4, q5, q6, q7, q8⟩, q9⟩ := hI
 have hsz := size_list s
 simp (disch := omega) only [↓sxA, ↓wk_store, sxB, sxP, simprocAttr, q2, q3, q4, q_slBoth, Int.toNat_natCast, extract_bs]
 refine kTrim _ _ (by rw [bs_size, List.length_take]; omega) ?_
 rw [bs_list]
 have hp : trm (List.take (e - fr) (List.drop fr s.data.toList)) = piece s.data.toList fr e := rfl
 rw [hp]
 by_cases hne : piece s.data.toList fr e = []
 ·have e1 : (bs (piece s.data.toList fr e) = ByteArray.empty) = True := eq_true (bs_ne.2 hne)
  simp (disch := omega) only [↓sxA, ↓wk_store, sxB, sxP, simprocAttr, e1, q2, q3, q4]
  have h' := h (st.put (s0.next + 2) (some (.row [.int .i64 ((e + 1 : Nat) : Int)] 0 false)))
  rw [hne] at h'
  simp only [cons1, if_true, List.append_nil] at h'
  have ec : ((e : Int) + 1) = ((e + 1 : Nat) : Int) := by omega
  rw [ec]
  exact h' (SI.put5 ⟨q1, q2, q3, ⟨v, q4, q5, q6, q7, q8⟩, q9⟩)
 ·have e1 : (bs (piece s.data.toList fr e) = ByteArray.empty) = False := eq_false fun h => hne (bs_ne.1 h)
  simp (disch := omega) only [↓sxA, ↓wk_store, sxB, sxP, simprocAttr, e1, q2, q3, q4]
  refine appendK (n := l.length) (q5.keep fun i hi => get_new_ne _ _ _ (by omega)) (get_new_same _ _) rfl (by decide) rfl (by omega) (by omega) fun s5 a1 a2 a3 => ?_
  have e5 : s5.next = st.next + 2 := a2
  have fr5 : ∀ i, i + 1 ≠ ow v → i < st.next → s5.get i = st.get i := fun i h1 h2 => (a3 i h1 (by show i < st.next + 1; omega)).trans (get_new_ne _ _ _ (by omega))
  have x1 : s5.get s0.next = some (.row [.string s] 0 false) := (fr5 _ (by omega) (by omega)).trans q2
  have x2 : s5.get (s0.next + 2) = some (.row [.int .i64 (fr : Nat)] 0 false) := (fr5 _ (by omega) (by omega)).trans q3
  have x3 : s5.get (s0.next + 1) = some (.row [v] 0 false) := (fr5 _ (by omega) (by omega)).trans q4
  simp (disch := omega) only [↓sxA, ↓wk_store, sxB, sxP, simprocAttr, x1, x2, x3]
  have ec : ((e : Int) + 1) = ((e + 1 : Nat) : Int) := by omega
  rw [ec]
  have hc : l ++ cons1 (piece s.data.toList fr e) [] = l ++ [piece s.data.toList fr e] := by simp [cons1, hne]
  rw [hc] at h
  refine h _ (SI.put5 (fr := fr) ⟨?_, ?_, ?_, ⟨_, get_put_same _ _ _, ?_, ?_, ?_, rfl⟩, fun i hi => ?_⟩)
  ·show s0.next + 3 ≤ s5.next
   omega
  ·exact (get_put_ne _ _ _ _ (by omega)).trans x1
  ·exact (get_put_ne _ _ _ _ (by omega)).trans x2
  ·have hS : strs (l ++ [piece s.data.toList fr e]) = strs l ++ [.string (bs (piece s.data.toList fr e))] := by simp [strs]
   rw [hS, List.length_append]
   refine a1.keep fun i hi => get_put_ne _ _ _ _ ?_
   have : i + 1 = st.next + 1 + 1 := hi
   omega
  ·right
   show s0.next + 4 ≤ st.next + 1 + 1
   omega
  ·show st.next + 1 + 1 ≤ s5.next
   omega
  ·exact (get_put_ne _ _ _ _ (by omega)).trans ((fr5 i (by omega) (by omega)).trans (q9 i hi))

abbrev clos (N : Nat) : Value := .func (.func 14) #[] #[.pointer (some ⟨N, 0, none⟩), .pointer (some ⟨N + 2, 0, none⟩), .pointer (some ⟨N + 1, 0, none⟩)]
def SplI (s0 : St) (s : ByteArray) (vs : List Value) (st : St) : Prop :=
 ∃ (i fr : Nat) (b : Bool) (l : List (List UInt8)), vs = [.pointer (some ⟨s0.next, 0, none⟩), .pointer (some ⟨s0.next + 1, 0, none⟩), .pointer (some ⟨s0.next + 2, 0, none⟩), .bool b, clos s0.next, .int .i64 (i : Nat)] ∧
  i ≤ s.size ∧ fr ≤ i ∧ l.length ≤ i ∧ SI s0 st s fr l ∧ splA s.data.toList 0 0 true = (splA s.data.toList i fr b).map (l ++ ·)

set_option maxHeartbeats 2000000 in
theorem kSplit (n : Nat) (s : ByteArray) (hs : s.size ≤ 80000)
  (h : ∀ v e st', (match splA s.data.toList 0 0 true with
   | none => v = .slice none 0 0 ∧ e = 250
   | some l => Cel st' v (strs l) ∧ e = 0) → ow v ≤ st'.next → Frm st st' → K (.tuple #[v, .int .i64 e]) st') :
  callK (callO T0 orc fns 100000 (n + 3)) 6 [.string s] st K := by
 refine fn_runs (fn := g6) ?_ ?_ ?_
 ·rfl
 ·rfl
 unfold g6
 have hsz := size_list s
 have g1 : ∀ (A B C : AObj), (((st.new A).new B).new C).get (st.next + 1 + 1) = some C := fun A B C => get_new_same _ _
 simp (disch := omega) only [↓sxA, ↓wk_store, sxB, sxP, simprocAttr, g1]
 refine loop_rule [1, 4, 5, 6, 7, 8] (SplI st s) (fun vs _ => match lget vs 5 with
   | .int _ k => ((s.size : Int) - k).toNat
   | _ => 0) ?_ ?_ ?_
 ·rfl
 ·refine ⟨_, rfl, ⟨0, 0, true, [], rfl, Nat.zero_le _, Nat.le_refl _, Nat.le_refl _, ⟨?_, ?_, get_put_same _ _ _, ⟨.slice none 0 0, ?_, GroK.nil _ _, .inl rfl, Nat.zero_le _, rfl⟩, fun i hi => ?_⟩, by simp⟩, ?_⟩
  ·exact Nat.le_refl _
  ·exact (get_put_ne _ _ _ _ (by show st.next + 1 + 1 ≠ st.next; omega)).trans ((get_new_ne _ _ _ (by show st.next + 1 + 1 ≠ st.next; omega)).trans ((get_new_ne _ _ _ (by show st.next + 1 ≠ st.next; omega)).trans (get_new_same _ _)))
  ·exact (get_put_ne _ _ _ _ (by show st.next + 1 + 1 ≠ st.next + 1; omega)).trans ((get_new_ne _ _ _ (by show st.next + 1 + 1 ≠ st.next + 1; omega)).trans (get_new_same _ _))
  ·exact (get_put_ne _ _ _ _ (by show st.next + 1 + 1 ≠ i; omega)).trans ((get_new_ne _ _ _ (by show st.next + 1 + 1 ≠ i; omega)).trans ((get_new_ne _ _ _ (by show st.next + 1 ≠ i; omega)).trans (get_new_ne _ _ _ (by omega))))
  ·show ((s.size : Int) - 0).toNat < 100000
   omega
 ·rintro vs st' ⟨i, fr, b, l, rfl, i1, i2, i3, hI, i4⟩
  show sx _ _ _ _ _ [(1, _), (4, _), (5, _), (6, _), (7, _), (8, _)] _ _ _ _
  have r1 := hI.r1
  by_cases hi : i < s.size
  ·obtain ⟨c, hc, hg, hb⟩ := byte_at s i hi
   have hlt : i < s.data.toList.length := by omega
   have go : ∀ (b' : Bool) (j : Nat) (l' : List (List UInt8)) (fr' : Nat) (s2 : St), i < j → j ≤ s.size → fr' ≤ j → l'.length ≤ j → SI st s2 s fr' l' → splA s.data.toList 0 0 true = (splA s.data.toList j fr' b').map (l' ++ ·) →
     ∃ vs', some [Value.pointer (some ⟨st.next, 0, none⟩), .pointer (some ⟨st.next + 1, 0, none⟩), .pointer (some ⟨st.next + 2, 0, none⟩), .bool b', clos st.next, .int .i64 ((j : Nat) : Int)] = some vs' ∧ SplI st s vs' s2 ∧ (match lget vs' 5 with
      | .int _ k => ((s.size : Int) - k).toNat
      | _ => 0) < ((s.size : Int) - i).toNat := fun b' j l' fr' s2 k1 k2 k3 k4 k5 k6 => by
    refine ⟨_, rfl, ⟨j, fr', b', l', rfl, k2, k3, k4, k5, k6⟩, ?_⟩
    show ((s.size : Int) - j).toNat < ((s.size : Int) - i).toNat
    omega
   by_cases c34 : c = 34
   ·subst c34
    have a34 : (((34 : UInt8).toNat : Int) = 34) = True := eq_true (by decide)
    have a59 : (((34 : UInt8).toNat : Int) = 59) = False := eq_false (by decide)
    have a32 : (((34 : UInt8).toNat : Int) = 32) = False := eq_false (by decide)
    have a61 : (((34 : UInt8).toNat : Int) = 61) = False := eq_false (by decide)
    cases b with
    | true =>
     simp (disch := omega) only [q_indexStr, Int.toNat_natCast, hg, r1, a34, a59, a32, a61, ↓sxA, ↓wk_store, sxB, sxP, simprocAttr]
     refine kQEnd _ s (by omega) i hi ?_
     rcases qeA_range (L := s.data.toList) (i + 1) (by omega) with hq | ⟨hq1, hq2⟩
     ·rw [splA_bad hc rfl hq] at i4
      rw [hq]
      simp (disch := omega) only [Int.toNat_natCast, hg, r1, a34, a59, a32, a61, ↓sxA, ↓wk_store, sxB, sxP, simprocAttr]
      refine h _ 250 st' ?_ (Nat.zero_le _) (hI.frm)
      rw [i4]
      exact ⟨rfl, rfl⟩
     ·obtain ⟨e, he⟩ : ∃ e : Nat, qeA s.data.toList (i + 1) = (e : Int) := ⟨(qeA s.data.toList (i + 1)).toNat, by omega⟩
      rw [splA_quo hc rfl he] at i4
      rw [he] at hq1 hq2 ⊢
      have ee : (e : Int) - 1 + 1 = ((e : Nat) : Int) := by omega
      simp (disch := omega) only [Int.toNat_natCast, hg, r1, a34, a59, a32, a61, ↓sxA, ↓wk_store, sxB, sxP, simprocAttr]
      simp only [ee]
      exact go false e l fr st' (by omega) (by omega) (by omega) (by omega) hI i4
    | false =>
     rw [splA_oth hc (by simp) (by decide)] at i4
     simp (disch := omega) only [q_indexStr, Int.toNat_natCast, hg, r1, a34, a59, a32, a61, ↓sxA, ↓wk_store, sxB, sxP, simprocAttr]
     exact go false (i + 1) l fr st' (by omega) (by omega) (by omega) (by omega) hI i4
   ·have b34 : ((c.toNat : Int) = 34) = False := eq_false fun e => c34 (u8_eq (n := 34) e)
    by_cases c59 : c = 59
    ·subst c59
     have a59 : (((59 : UInt8).toNat : Int) = 59) = True := eq_true (by decide)
     have a32 : (((59 : UInt8).toNat : Int) = 32) = False := eq_false (by decide)
     have a61 : (((59 : UInt8).toNat : Int) = 61) = False := eq_false (by decide)
     rw [splA_semi hc] at i4
     simp (disch := omega) only [q_indexStr, Int.toNat_natCast, hg, r1, b34, a59, a32, a61, ↓sxA, ↓wk_store, sxB, sxP, simprocAttr]
     refine kPut n hs hI i (by omega) (by omega) (by omega) fun s2 hI2 => ?_
     simp (disch := omega) only [Int.toNat_natCast, hg, r1, b34, a59, a32, a61, ↓sxA, ↓wk_store, sxB, sxP, simprocAttr]
     refine go true (i + 1) _ (i + 1) s2 (by omega) (by omega) (Nat.le_refl _) ?_ hI2 ?_
     ·rw [List.length_append]
      have : (cons1 (piece s.data.toList fr i) []).length ≤ 1 := by unfold cons1; split <;> simp
      omega
     ·rw [i4, Option.map_map]
      congr 1
      funext r
      exact (cons1_app _ _ _).symm
    ·have b59 : ((c.toNat : Int) = 59) = False := eq_false fun e => c59 (u8_eq (n := 59) e)
     rw [splA_oth hc (fun hh => c34 hh.1) c59] at i4
     by_cases c32 : c = 32
     ·subst c32
      have a32 : (((32 : UInt8).toNat : Int) = 32) = True := eq_true (by decide)
      simp (disch := omega) only [q_indexStr, Int.toNat_natCast, hg, r1, b34, b59, a32, ↓sxA, ↓wk_store, sxB, sxP, simprocAttr]
      exact go true (i + 1) l fr st' (by omega) (by omega) (by omega) (by omega) hI i4
     ·have b32 : ((c.toNat : Int) = 32) = False := eq_false fun e => c32 (u8_eq (n := 32) e)
      by_cases c61 : c = 61
      ·subst c61
       have a61 : (((61 : UInt8).toNat : Int) = 61) = True := eq_true (by decide)
       simp (disch := omega) only [q_indexStr, Int.toNat_natCast, hg, r1, b34, b59, b32, a61, ↓sxA, ↓wk_store, sxB, sxP, simprocAttr]
       exact go true (i + 1) l fr st' (by omega) (by omega) (by omega) (by omega) hI i4
      ·have b61 : ((c.toNat : Int) = 61) = False := eq_false fun e => c61 (u8_eq (n := 61) e)
       have ef : (c == 32 || c == 61) = false := by simp [c32, c61]
       rw [ef] at i4
       simp (disch := omega) only [q_indexStr, Int.toNat_natCast, hg, r1, b34, b59, b32, b61, ↓sxA, ↓wk_store, sxB, sxP, simprocAttr]
       exact go false (i + 1) l fr st' (by omega) (by omega) (by omega) (by omega) hI i4
  ·simp (disch := omega) only [r1, ↓sxA, ↓wk_store, sxB, sxP, simprocAttr]
   rw [splA_end (i := i) (by omega)] at i4
   refine kPut n hs hI s.size (by omega) (Nat.le_refl _) (by omega) fun s2 hI2 => ?_
   have F := hI2.frm
   obtain ⟨q1, q2, q3, ⟨v, q4, q5, q6, q7, q8⟩, q9⟩ := hI2
   simp (disch := omega) only [q4, ↓sxA, ↓wk_store, sxB, sxP, simprocAttr]
   refine h v 0 s2 ?_ q7 F
   rw [i4]
   refine ⟨?_, rfl⟩
   rw [size_list] at q5
   exact q5.cel.1
end
end Go.Proofs.YtjomiadmminhfaaGreatDoor
end
section
set_option linter.unusedSimpArgs false
set_option linter.unusedVariables false
set_option maxRecDepth 10000
set_option linter.unusedSectionVars false
namespace Go.Proofs.YtjomiadmminhfaaGreatDoor
open Go.Am
attribute [local irreducible] callO wopK ropK popK opK grpsE listE sx Runs

section
variable {st s0 : St} {K : Value → St → Prop} {s : ByteArray} {fr : Nat} {l : List (List UInt8)}

/-- the rows that were there stay; the commands so far -/
structure SR (s0 st : St) (v : Value) (l : List (List UInt8)) : Prop where
 out : GroK 1 st v (strs l) l.length
 o1 : ow v = 0 ∨ s0.next + 1 ≤ ow v
 o2 : ow v ≤ st.next
 frm : Frm s0 st
 one : oneCell v = true
theorem SR.app {v : Value} (hI : SR s0 st v l) (p : List UInt8) (hl : l.length ≤ 100000) {W : Value → St → Prop}
  (hW : ∀ v2 s2, SR s0 s2 v2 (l ++ [p]) → W v2 s2) : wopK (.append 1 16) [v, .slice (some ⟨st.next, 0, none⟩) 1 1] (st.new (.row [.string (bs p)] 0 false)) W := by
 obtain ⟨q5, q6, q7, q9, q8⟩ := hI
 have nx := q9.nx
 refine appendK (n := l.length) (q5.keep fun i hi => get_new_ne _ _ _ (by omega)) (get_new_same _ _) rfl (by decide) rfl (by omega) (by omega) fun s5 a1 a2 a3 => ?_
 have e5 : s5.next = st.next + 2 := a2
 have fr5 : ∀ i, i + 1 ≠ ow v → i < st.next → s5.get i = st.get i := fun i h1 h2 => (a3 i h1 (by show i < st.next + 1; omega)).trans (get_new_ne _ _ _ (by omega))
 refine hW _ _ ⟨?_, ?_, ?_, ⟨by omega, fun i hi => (fr5 i (by omega) (by omega)).trans (q9.old i hi)⟩, rfl⟩
 ·have hS : strs (l ++ [p]) = strs l ++ [.string (bs p)] := by simp [strs]
  rw [hS, List.length_append]
  exact a1
 ·right
  show s0.next + 1 ≤ st.next + 1 + 1
  omega
 ·show st.next + 1 + 1 ≤ s5.next
  omega
def SplR (s0 : St) (s : ByteArray) (vs : List Value) (st : St) : Prop :=
 ∃ (i fr : Nat) (b : Bool) (l : List (List UInt8)) (v : Value), vs = [.string s, v, .int .i64 (fr : Nat), .bool b, .int .i64 (i : Nat)] ∧
  i ≤ s.size + 1 ∧ fr ≤ i ∧ l.length ≤ i ∧ SR s0 st v l ∧ ((i ≤ s.size ∧ splA s.data.toList 0 0 true = (splA s.data.toList i fr b).map (l ++ ·)) ∨ (i = s.size + 1 ∧ splA s.data.toList 0 0 true = some l))

set_option maxHeartbeats 2000000 in
theorem kSplitR (n : Nat) (s : ByteArray) (hs : s.size ≤ 80000)
  (h : ∀ v e st', (match splA s.data.toList 0 0 true with
   | none => v = .slice none 0 0 ∧ e = 250
   | some l => Cel st' v (strs l) ∧ e = 0) → ow v ≤ st'.next → Frm st st' → K (.tuple #[v, .int .i64 e]) st') :
  callK (callO T0 orc fns 100000 (n + 3)) 7 [.string s] st K := by
 refine fn_runs (fn := g7) ?_ ?_ ?_
 ·rfl
 ·rfl
 unfold g7
 have hsz := size_list s
 simp (disch := omega) only [↓sxA, ↓wk_store, sxB, sxP, simprocAttr]
 refine loop_rule [0, 4, 5, 6, 7] (SplR st s) (fun vs _ => match lget vs 4 with
   | .int _ k => ((s.size : Int) + 1 - k).toNat
   | _ => 0) ?_ ?_ ?_
 ·rfl
 ·refine ⟨_, rfl, ⟨0, 0, true, [], .slice none 0 0, rfl, Nat.zero_le _, Nat.le_refl _, Nat.le_refl _, ⟨GroK.nil _ _, .inl rfl, Nat.zero_le _, Frm.refl _, rfl⟩, .inl ⟨Nat.zero_le _, by simp⟩⟩, ?_⟩
  show ((s.size : Int) + 1 - 0).toNat < 100000
  omega
 ·rintro vs st' ⟨i, fr, b, l, v, rfl, i1, i2, i3, hI, i4⟩
  show sx _ _ _ _ _ [(0, _), (4, _), (5, _), (6, _), (7, _)] _ _ _ _
  have go : ∀ (b' : Bool) (j : Nat) (l' : List (List UInt8)) (fr' : Nat) (v' : Value) (s2 : St), i < j → j ≤ s.size + 1 → fr' ≤ j → l'.length ≤ j → SR st s2 v' l' → ((j ≤ s.size ∧ splA s.data.toList 0 0 true = (splA s.data.toList j fr' b').map (l' ++ ·)) ∨ (j = s.size + 1 ∧ splA s.data.toList 0 0 true = some l')) →
    ∃ vs', some [.string s, v', .int .i64 ((fr' : Nat) : Int), .bool b', .int .i64 ((j : Nat) : Int)] = some vs' ∧ SplR st s vs' s2 ∧ (match lget vs' 4 with
     | .int _ k => ((s.size : Int) + 1 - k).toNat
     | _ => 0) < ((s.size : Int) + 1 - i).toNat := fun b' j l' fr' v' s2 k1 k2 k3 k4 k5 k6 => by
   refine ⟨_, rfl, ⟨j, fr', b', l', v', rfl, k2, k3, k4, k5, k6⟩, ?_⟩
   show ((s.size : Int) + 1 - j).toNat < ((s.size : Int) + 1 - i).toNat
   omega
  by_cases hend : i = s.size + 1
  ·rcases i4 with i4 | ⟨_, i4⟩
   ·omega
   subst hend
   simp (disch := omega) only [↓sxA, ↓wk_store, sxB, sxP, simprocAttr]
   refine h v 0 st' ?_ hI.o2 hI.frm
   rw [i4]
   exact ⟨hI.out.cel.1, rfl⟩
  ·have i4' : splA s.data.toList 0 0 true = (splA s.data.toList i fr b).map (l ++ ·) := by
    rcases i4 with ⟨_, i4⟩ | ⟨i4, _⟩
    ·exact i4
    ·omega
   clear i4
   have put : ∀ (s2 : St) (v2 : Value) (p : List UInt8), SR st s2 v2 l → True := fun _ _ _ _ => trivial
   by_cases hi : i < s.size
   ·obtain ⟨c, hc, hg, hb⟩ := byte_at s i hi
    by_cases c34 : c = 34
    ·subst c34
     have a34 : (((34 : UInt8).toNat : Int) = 34) = True := eq_true (by decide)
     have a59 : (((34 : UInt8).toNat : Int) = 59) = False := eq_false (by decide)
     have a32 : (((34 : UInt8).toNat : Int) = 32) = False := eq_false (by decide)
     have a61 : (((34 : UInt8).toNat : Int) = 61) = False := eq_false (by decide)
     cases b with
     | true =>
      simp (disch := omega) only [q_indexStr, Int.toNat_natCast, hg, a34, a59, a32, a61, ↓sxA, ↓wk_store, sxB, sxP, simprocAttr]
      refine kQEndR _ s (by omega) i hi ?_
      rcases qeA_range (L := s.data.toList) (i + 1) (by omega) with hq | ⟨hq1, hq2⟩
      ·rw [splA_bad hc rfl hq] at i4'
       rw [hq]
       simp (disch := omega) only [Int.toNat_natCast, hg, a34, a59, a32, a61, ↓sxA, ↓wk_store, sxB, sxP, simprocAttr]
       refine h _ 250 st' ?_ (Nat.zero_le _) hI.frm
       rw [i4']
       exact ⟨rfl, rfl⟩
      ·obtain ⟨e, he⟩ : ∃ e : Nat, qeA s.data.toList (i + 1) = (e : Int) := ⟨(qeA s.data.toList (i + 1)).toNat, by omega⟩
       rw [splA_quo hc rfl he] at i4'
       rw [he] at hq1 hq2 ⊢
       simp (disch := omega) only [Int.toNat_natCast, hg, a34, a59, a32, a61, ↓sxA, ↓wk_store, sxB, sxP, simprocAttr]
       exact go false e l fr v st' (by omega) (by omega) (by omega) (by omega) hI (.inl ⟨by omega, i4'⟩)
     | false =>
      rw [splA_oth hc (by simp) (by decide)] at i4'
      simp (disch := omega) only [q_indexStr, Int.toNat_natCast, hg, a34, a59, a32, a61, ↓sxA, ↓wk_store, sxB, sxP, simprocAttr]
      exact go false (i + 1) l fr v st' (by omega) (by omega) (by omega) (by omega) hI (.inl ⟨by omega, i4'⟩)
    ·have b34 : ((c.toNat : Int) = 34) = False := eq_false fun e => c34 (u8_eq (n := 34) e)
     by_cases c59 : c = 59
     ·subst c59
      have a59 : (((59 : UInt8).toNat : Int) = 59) = True := eq_true (by decide)
      rw [splA_semi hc] at i4'
      simp (disch := omega) only [q_indexStr, Int.toNat_natCast, hg, b34, a59, q_slBoth, extract_bs, ↓sxA, ↓wk_store, sxB, sxP, simprocAttr]
      refine kTrimR _ _ (by rw [bs_size, List.length_take]; omega) ?_
      rw [bs_list]
      have hp : trm (List.take (i - fr) (List.drop fr s.data.toList)) = piece s.data.toList fr i := rfl
      rw [hp]
      by_cases hne : piece s.data.toList fr i = []
      ·have e1 : (bs (piece s.data.toList fr i) = ByteArray.empty) = True := eq_true (bs_ne.2 hne)
       simp (disch := omega) only [Int.toNat_natCast, hg, b34, a59, e1, ↓sxA, ↓wk_store, sxB, sxP, simprocAttr]
       refine go true (i + 1) l (i + 1) v st' (by omega) (by omega) (Nat.le_refl _) (by omega) hI (.inl ⟨by omega, ?_⟩)
       rw [i4']
       congr 1
       have ec : cons1 ([] : List UInt8) = id := by funext r; simp [cons1]
       rw [hne, ec, Option.map_id]
       rfl
      ·have e1 : (bs (piece s.data.toList fr i) = ByteArray.empty) = False := eq_false fun h => hne (bs_ne.1 h)
       simp (disch := omega) only [Int.toNat_natCast, hg, b34, a59, e1, ↓sxA, ↓wk_store, sxB, sxP, simprocAttr]
       refine hI.app (piece s.data.toList fr i) (by omega) fun v2 s2 hI2 => ?_
       simp (disch := omega) only [Int.toNat_natCast, hg, b34, a59, e1, ↓sxA, ↓wk_store, sxB, sxP, simprocAttr]
       refine go true (i + 1) _ (i + 1) v2 s2 (by omega) (by omega) (Nat.le_refl _) (by rw [List.length_append]; simp only [List.length_cons, List.length_nil]; omega) hI2 (.inl ⟨by omega, ?_⟩)
       rw [i4', Option.map_map]
       congr 1
       funext r
       simp [cons1, hne]
     ·have b59 : ((c.toNat : Int) = 59) = False := eq_false fun e => c59 (u8_eq (n := 59) e)
      rw [splA_oth hc (fun hh => c34 hh.1) c59] at i4'
      by_cases c32 : c = 32
      ·subst c32
       have a32 : (((32 : UInt8).toNat : Int) = 32) = True := eq_true (by decide)
       simp (disch := omega) only [q_indexStr, Int.toNat_natCast, hg, b34, b59, a32, ↓sxA, ↓wk_store, sxB, sxP, simprocAttr]
       exact go true (i + 1) l fr v st' (by omega) (by omega) (by omega) (by omega) hI (.inl ⟨by omega, i4'⟩)
      ·have b32 : ((c.toNat : Int) = 32) = False := eq_false fun e => c32 (u8_eq (n := 32) e)
       by_cases c61 : c = 61
       ·subst c61
        have a61 : (((61 : UInt8).toNat : Int) = 61) = True := eq_true (by decide)
        simp (disch := omega) only [q_indexStr, Int.toNat_natCast, hg, b34, b59, b32, a61, ↓sxA, ↓wk_store, sxB, sxP, simprocAttr]
        exact go true (i + 1) l fr v st' (by omega) (by omega) (by omega) (by omega) hI (.inl ⟨by omega, i4'⟩)
       ·have b61 : ((c.toNat : Int) = 61) = False := eq_false fun e => c61 (u8_eq (n := 61) e)
        have ef : (c == 32 || c == 61) = false := by simp [c32, c61]
        rw [ef] at i4'
        simp (disch := omega) only [q_indexStr, Int.toNat_natCast, hg, b34, b59, b32, b61, ↓sxA, ↓wk_store, sxB, sxP, simprocAttr]
        exact go false (i + 1) l fr v st' (by omega) (by omega) (by omega) (by omega) hI (.inl ⟨by omega, i4'⟩)
   ·obtain rfl : i = s.size := by omega
    rw [splA_end (i := s.size) (by omega)] at i4'
    simp (disch := omega) only [Int.toNat_natCast, q_slBoth, extract_bs, ↓sxA, ↓wk_store, sxB, sxP, simprocAttr]
    refine kTrimR _ _ (by rw [bs_size, List.length_take]; omega) ?_
    rw [bs_list]
    have hp : trm (List.take (s.size - fr) (List.drop fr s.data.toList)) = piece s.data.toList fr s.size := rfl
    rw [hp]
    by_cases hne : piece s.data.toList fr s.size = []
    ·have e1 : (bs (piece s.data.toList fr s.size) = ByteArray.empty) = True := eq_true (bs_ne.2 hne)
     simp (disch := omega) only [Int.toNat_natCast, e1, ↓sxA, ↓wk_store, sxB, sxP, simprocAttr]
     refine go true (s.size + 1) l (s.size + 1) v st' (by omega) (by omega) (Nat.le_refl _) (by omega) hI (.inr ⟨rfl, ?_⟩)
     rw [i4', ← size_list, hne]
     simp [cons1]
    ·have e1 : (bs (piece s.data.toList fr s.size) = ByteArray.empty) = False := eq_false fun h => hne (bs_ne.1 h)
     simp (disch := omega) only [Int.toNat_natCast, e1, ↓sxA, ↓wk_store, sxB, sxP, simprocAttr]
     refine hI.app (piece s.data.toList fr s.size) (by omega) fun v2 s2 hI2 => ?_
     simp (disch := omega) only [Int.toNat_natCast, e1, ↓sxA, ↓wk_store, sxB, sxP, simprocAttr]
     refine go true (s.size + 1) _ (s.size + 1) v2 s2 (by omega) (by omega) (Nat.le_refl _) (by rw [List.length_append]; simp only [List.length_cons, List.length_nil]; omega) hI2 (.inr ⟨rfl, ?_⟩)
     rw [i4', ← size_list]
     simp [cons1, hne]
end
end Go.Proofs.YtjomiadmminhfaaGreatDoor
end
section
set_option linter.unusedSimpArgs false
set_option linter.unusedVariables false
set_option maxRecDepth 10000
set_option linter.unusedSectionVars false
namespace Go.Proofs.YtjomiadmminhfaaGreatDoor
open Go.Am

/-- where words begin, from a place on -/
inductive PlR (L : List UInt8) : Nat → List Nat → Prop
 | fin {p : Nat} : nxt L p = .fin → PlR L p []
 | wd {p : Nat} {s : List UInt8} {q : Bool} {fr to : Nat} {r : List Nat} : nxt L p = .wd s q fr to → PlR L to r → PlR L p (fr :: r)
theorem WsR.places {L : List UInt8} {p : Nat} {r : Option (List (List UInt8 × Bool))} (h : WsR L p r) : ∀ l, r = some l → ∃ ps, PlR L p ps ∧ ps.length = l.length := by
 induction h with
 | fin h => intro l e; cases e; exact ⟨[], .fin h, rfl⟩
 | bad h => intro l e; cases e
 | wd h k ih =>
  intro l e
  rw [Option.map_eq_some_iff] at e
  obtain ⟨l', e1, rfl⟩ := e
  obtain ⟨ps, h1, h2⟩ := ih l' e1
  exact ⟨_ :: ps, .wd h h1, by simp [h2]⟩
theorem quo_qend : ∀ (n : Nat) (l : List UInt8) (x : List UInt8 × Nat), l.length ≤ n → quo l = some x → qend l = some x.2
 | _, [], x, _, h => by simp [quo] at h
 | _, [c], x, _, h => by
  simp only [quo] at h
  simp only [qend]
  by_cases hc : c = 34
  ·rw [if_pos hc] at h ⊢; cases h; rfl
  ·rw [if_neg hc] at h; cases h
 | 0, c :: d :: r, x, hn, h => by simp at hn
 | n + 1, c :: d :: r, x, hn, h => by
  simp only [List.length_cons] at hn
  simp only [quo] at h
  by_cases hc : c = 34
  ·subst hc
   rw [if_pos rfl] at h
   split at h
   ·cases h; rw [qend_q]
   ·cases h
  rw [if_neg hc] at h
  by_cases hp : prn c = false
  ·rw [if_pos hp] at h; cases h
  rw [if_neg hp] at h
  by_cases h1 : c = 42 ∧ (d = 34 ∨ d = 42)
  ·rw [if_pos h1] at h
   simp only [Option.map_eq_some_iff] at h
   obtain ⟨y, hy, rfl⟩ := h
   rw [h1.1, qend_star, quo_qend n r y (by omega) hy]
   rfl
  rw [if_neg h1] at h
  by_cases h2 : c = 42 ∧ d = 110
  ·rw [if_pos h2] at h
   simp only [Option.map_eq_some_iff] at h
   obtain ⟨y, hy, rfl⟩ := h
   rw [h2.1, qend_star, quo_qend n r y (by omega) hy]
   rfl
  rw [if_neg h2] at h
  simp only [Option.map_eq_some_iff] at h
  obtain ⟨y, hy, rfl⟩ := h
  have ih := quo_qend n (d :: r) y (by simp only [List.length_cons]; omega) hy
  by_cases h42 : c = 42
  ·subst h42
   have hd : d ≠ 34 ∧ d ≠ 42 := ⟨fun e => h1 ⟨rfl, .inl e⟩, fun e => h1 ⟨rfl, .inr e⟩⟩
   rw [qend_oth r hd.1 hd.2] at ih
   rw [qend_star]
   cases hr : qend r with
   | none => rw [hr] at ih; cases ih
   | some k =>
    rw [hr] at ih
    simp only [Option.map_some, Option.some.injEq] at ih ⊢
    omega
  ·rw [qend_oth _ hc h42, ih]
   rfl
theorem PlR.hit {L : List UInt8} {p : Nat} {r : List Nat} (h : PlR L p r) (hp : L[p]? = some 32) : PlR L (p + 1) r := by
 have e : nxt L p = nxt L (p + 1) := by unfold nxt; rw [blk_hit hp]
 cases h with
 | fin h => exact .fin (by rw [← e]; exact h)
 | wd h k => exact .wd (by rw [← e]; exact h) k
theorem PlR.end {L : List UInt8} {p : Nat} {r : List Nat} (h : PlR L p r) (hp : L.length ≤ p) : r = [] := by
 have hn : L[p]? = none := List.getElem?_eq_none hp
 have e : nxt L p = .fin := by
  unfold nxt
  rw [blk_stop (by rw [hn]; intro e; cases e), hn]
 cases h with
 | fin h => rfl
 | wd h k => rw [e] at h; cases h
/-- a word: what it is told by -/
theorem PlR.word {L : List UInt8} {p : Nat} {r : List Nat} {c : UInt8} (h : PlR L p r) (hc : L[p]? = some c) (h32 : c ≠ 32) : ∃ (to : Nat) (r' : List Nat), r = p :: r' ∧ PlR L to r' ∧ p < to ∧ to ≤ L.length ∧ (c = 61 → to = p + 1) ∧ (c = 34 → qeA L (p + 1) = (to : Int)) ∧ (c ≠ 61 → c ≠ 34 → to = pwE L p) := by
 have hlt := (List.getElem?_eq_some_iff.1 hc).1
 have hb : blk L p = p := blk_stop (by rw [hc]; intro e; cases e; exact h32 rfl)
 cases h with
 | fin h =>
  have := (nxt_fin (Nat.le_of_lt hlt)).1 h
  omega
 | wd h k =>
  rename_i s q fr to r'
  obtain ⟨n1, n2, n3, n4, _⟩ := nxt_wd (Nat.le_of_lt hlt) h
  rw [hb] at n1
  subst n1
  refine ⟨to, r', rfl, k, n3, n4, fun e => ?_, fun e => ?_, fun e1 e2 => ?_⟩
  ·unfold nxt at h
   rw [hb, hc] at h
   simp only at h
   rw [if_pos e] at h
   cases h; rfl
  ·unfold nxt at h
   rw [hb, hc] at h
   simp only at h
   rw [if_neg (by rw [e]; decide), if_pos e] at h
   split at h
   ·rename_i x hx
    cases h
    unfold qeA
    rw [quo_qend _ _ x (Nat.le_refl _) hx]
   ·cases h
  ·unfold nxt at h
   rw [hb, hc] at h
   simp only at h
   rw [if_neg e1, if_neg e2] at h
   split at h
   ·cases h; rfl
   ·cases h

def ints (l : List Nat) : List Value := l.map fun x => .int .i64 (x : Nat)
/-- a row that grows, all that was there before staying -/
structure RG (s0 st : St) (v : Value) (cs : List Value) : Prop where
 out : GroK 1 st v cs cs.length
 o1 : ow v = 0 ∨ s0.next + 1 ≤ ow v
 o2 : ow v ≤ st.next
 frm : Frm s0 st
 one : oneCell v = true
theorem RG.nil (st : St) : RG st st (.slice none 0 0) [] := ⟨GroK.nil _ _, .inl rfl, Nat.zero_le _, Frm.refl _, rfl⟩
section
variable {st s0 : St} {v : Value} {cs : List Value}
theorem RG.app (hI : RG s0 st v cs) (x : Value) (hx : oneCell x = true) (hl : cs.length ≤ 100000) {b : Nat} (hb : b ≤ 16) {W : Value → St → Prop}
  (hW : ∀ v2 s2, RG s0 s2 v2 (cs ++ [x]) → W v2 s2) : wopK (.append 1 b) [v, .slice (some ⟨st.next, 0, none⟩) 1 1] (st.new (.row [x] 0 false)) W := by
 obtain ⟨q5, q6, q7, q9, q8⟩ := hI
 have nx := q9.nx
 have hbn : (cs.length + 1) * b ≤ 100001 * 16 := Nat.mul_le_mul (by omega) hb
 refine appendK (n := cs.length) (q5.keep fun i hi => get_new_ne _ _ _ (by omega)) (get_new_same _ _) rfl (by decide) (by simp [hx]) (by omega) (by omega) fun s5 a1 a2 a3 => ?_
 have e5 : s5.next = st.next + 2 := a2
 have fr5 : ∀ i, i + 1 ≠ ow v → i < st.next → s5.get i = st.get i := fun i h1 h2 => (a3 i h1 (by show i < st.next + 1; omega)).trans (get_new_ne _ _ _ (by omega))
 refine hW _ _ ⟨?_, ?_, ?_, ⟨by omega, fun i hi => (fr5 i (by omega) (by omega)).trans (q9.old i hi)⟩, rfl⟩
 ·rw [List.length_append]
  exact a1
 ·right
  show s0.next + 1 ≤ st.next + 1 + 1
  omega
 ·show st.next + 1 + 1 ≤ s5.next
  omega
end

attribute [local irreducible] callO wopK ropK popK opK grpsE listE sx Runs

section
variable {st s0 : St} {K : Value → St → Prop} {s : ByteArray}

def PlI (s0 : St) (s : ByteArray) (ps : List Nat) (vs : List Value) (st : St) : Prop :=
 ∃ (i : Nat) (l r : List Nat) (v : Value), vs = [.string s, v, .int .i64 (i : Nat)] ∧ i ≤ s.size ∧ l.length ≤ i ∧ RG s0 st v (ints l) ∧ PlR s.data.toList i r ∧ ps = l ++ r

set_option maxHeartbeats 2000000 in
theorem kPlaces (n : Nat) (s : ByteArray) (hs : s.size ≤ 80000) (ps : List Nat) (hp : PlR s.data.toList 0 ps) (h : ∀ v st', Cel st' v (ints ps) → ow v ≤ st'.next → Frm st st' → K v st') :
  callK (callO T0 orc fns 100000 (n + 3)) 21 [.string s] st K := by
 refine fn_runs (fn := g21) ?_ ?_ ?_
 ·rfl
 ·rfl
 unfold g21
 have hsz := size_list s
 simp (disch := omega) only [↓sxA, ↓wk_store, sxB, sxP, simprocAttr]
 refine loop_rule [0, 3, 4] (PlI st s ps) (fun vs _ => match lget vs 2 with
   | .int _ k => ((s.size : Int) - k).toNat
   | _ => 0) ?_ ?_ ?_
 ·rfl
 ·refine ⟨_, rfl, ⟨0, [], ps, .slice none 0 0, rfl, Nat.zero_le _, Nat.le_refl _, RG.nil _, hp, rfl⟩, ?_⟩
  show ((s.size : Int) - 0).toNat < 100000
  omega
 ·rintro vs st' ⟨i, l, r, v, rfl, i1, i2, hI, hR, i4⟩
  show sx _ _ _ _ _ [(0, _), (3, _), (4, _)] _ _ _ _
  have go : ∀ (j : Nat) (l' r' : List Nat) (v' : Value) (s2 : St), i < j → j ≤ s.size → l'.length ≤ j → RG st s2 v' (ints l') → PlR s.data.toList j r' → ps = l' ++ r' →
    ∃ vs', some [.string s, v', .int .i64 ((j : Nat) : Int)] = some vs' ∧ PlI st s ps vs' s2 ∧ (match lget vs' 2 with
     | .int _ k => ((s.size : Int) - k).toNat
     | _ => 0) < ((s.size : Int) - i).toNat := fun j l' r' v' s2 k1 k2 k3 k4 k5 k6 => by
   refine ⟨_, rfl, ⟨j, l', r', v', rfl, k2, k3, k4, k5, k6⟩, ?_⟩
   show ((s.size : Int) - j).toNat < ((s.size : Int) - i).toNat
   omega
  by_cases hi : i < s.size
  ·obtain ⟨c, hc, hg, hb⟩ := byte_at s i hi
   by_cases c32 : c = 32
   ·subst c32
    have a32 : (((32 : UInt8).toNat : Int) = 32) = True := eq_true (by decide)
    simp (disch := omega) only [q_indexStr, Int.toNat_natCast, hg, a32, ↓sxA, ↓wk_store, sxB, sxP, simprocAttr]
    exact go (i + 1) l r v st' (by omega) (by omega) (by omega) hI (hR.hit hc) i4
   ·have b32 : ((c.toNat : Int) = 32) = False := eq_false fun e => c32 (u8_eq (n := 32) e)
    obtain ⟨to, r', rfl, hR', t1, t2, t3, t4, t5⟩ := hR.word hc c32
    have hpl : ∀ l : List Nat, (ints l).length = l.length := fun l => by simp [ints]
    simp (disch := omega) only [q_indexStr, Int.toNat_natCast, hg, b32, ↓sxA, ↓wk_store, sxB, sxP, simprocAttr]
    refine hI.app (.int .i64 (i : Nat)) rfl (by rw [hpl]; omega) (by decide) fun v2 s2 hI2 => ?_
    have e2 : ints l ++ [.int .i64 (i : Nat)] = ints (l ++ [i]) := by simp [ints]
    rw [e2] at hI2
    have i4' : ps = (l ++ [i]) ++ r' := by rw [i4]; simp
    by_cases c61 : c = 61
    ·subst c61
     have a61 : (((61 : UInt8).toNat : Int) = 61) = True := eq_true (by decide)
     simp (disch := omega) only [q_indexStr, Int.toNat_natCast, hg, a61, ↓sxA, ↓wk_store, sxB, sxP, simprocAttr]
     obtain rfl := t3 rfl
     exact go (i + 1) _ r' v2 s2 (by omega) (by omega) (by simp; omega) hI2 hR' i4'
    ·have b61 : ((c.toNat : Int) = 61) = False := eq_false fun e => c61 (u8_eq (n := 61) e)
     by_cases c34 : c = 34
     ·subst c34
      have a34 : (((34 : UInt8).toNat : Int) = 34) = True := eq_true (by decide)
      simp (disch := omega) only [q_indexStr, Int.toNat_natCast, hg, b61, a34, ↓sxA, ↓wk_store, sxB, sxP, simprocAttr]
      refine kQEnd _ s (by omega) i hi ?_
      rw [t4 rfl]
      simp (disch := omega) only [↓sxA, ↓wk_store, sxB, sxP, simprocAttr]
      exact go to _ r' v2 s2 (by omega) (by omega) (by simp; omega) hI2 hR' i4'
     ·have b34 : ((c.toNat : Int) = 34) = False := eq_false fun e => c34 (u8_eq (n := 34) e)
      obtain rfl := t5 c61 c34
      simp (disch := omega) only [q_indexStr, Int.toNat_natCast, hg, b61, b34, ↓sxA, ↓wk_store, sxB, sxP, simprocAttr]
      refine loop_rule [0, 3, 4] (fun vs s3 => s3 = s2 ∧ ∃ k : Nat, vs = [.string s, v2, .int .i64 (k : Nat)] ∧ i ≤ k ∧ k ≤ s.size ∧ pwE s.data.toList k = pwE s.data.toList i) (fun vs _ => match lget vs 2 with
        | .int _ k => ((s.size : Int) - k).toNat
        | _ => 0) ?_ ?_ ?_
      ·rfl
      ·refine ⟨_, rfl, ⟨rfl, i, rfl, Nat.le_refl _, by omega, rfl⟩, ?_⟩
       show ((s.size : Int) - (i : Int)).toNat < 100000
       omega
      ·rintro vs s3 ⟨rfl, k, rfl, k1, k2, k3⟩
       show sx _ _ _ _ _ [(0, _), (3, _), (4, _)] _ _ _ _
       have fin : pwE s.data.toList i = k → ∃ vs', some [.string s, v2, .int .i64 ((k : Nat) : Int)] = some vs' ∧ PlI st s ps vs' s3 ∧ (match lget vs' 2 with
         | .int _ k => ((s.size : Int) - k).toNat
         | _ => 0) < ((s.size : Int) - i).toNat := fun e => by
        rw [e] at hR' t1 t2
        exact go k _ r' v2 s3 t1 (by omega) (by simp; omega) hI2 hR' i4'
       by_cases hk : k < s.size
       ·obtain ⟨d, hd, hgd, hbd⟩ := byte_at s k hk
        simp (disch := omega) only [q_indexStr, Int.toNat_natCast, hgd, ↓sxA, ↓wk_store, sxB, sxP, simprocAttr]
        refine iteI (fun d1 => ?_) (fun d1 => iteI (fun d2 => ?_) (fun d2 => ?_))
        ·exact fin (by rw [← k3]; exact pwE_stop fun x hx => by rw [hd] at hx; cases hx; exact .inl (u8_eq (n := 32) d1))
        ·exact fin (by rw [← k3]; exact pwE_stop fun x hx => by rw [hd] at hx; cases hx; exact .inr (u8_eq (n := 61) d2))
        ·refine ⟨_, rfl, ⟨k + 1, by simp, by omega, hk, ?_⟩, ?_⟩
         ·rw [← k3]
          exact (pwE_hit hd (fun e => d1 (by rw [e]; rfl)) (fun e => d2 (by rw [e]; rfl))).symm
         ·show ((s.size : Int) - ((k : Int) + 1)).toNat < ((s.size : Int) - k).toNat
          omega
       ·simp (disch := omega) only [↓sxA, ↓wk_store, sxB, sxP, simprocAttr]
        exact fin (by rw [← k3]; exact pwE_stop fun x hx => by rw [byte_no s k (by omega)] at hx; cases hx)
  ·simp (disch := omega) only [↓sxA, ↓wk_store, sxB, sxP, simprocAttr]
   have hr0 := hR.end (by omega)
   subst hr0
   rw [List.append_nil] at i4
   subst i4
   exact h v st' hI.out.cel.1 hI.o2 hI.frm

set_option maxHeartbeats 2000000 in
theorem kPlacesR (n : Nat) (s : ByteArray) (hs : s.size ≤ 80000) (ps : List Nat) (hp : PlR s.data.toList 0 ps) (h : ∀ v st', Cel st' v (ints ps) → ow v ≤ st'.next → Frm st st' → K v st') :
  callK (callO T0 orc fns 100000 (n + 3)) 23 [.string s] st K := by
 refine fn_runs (fn := g23) ?_ ?_ ?_
 ·rfl
 ·rfl
 unfold g23
 have hsz := size_list s
 simp (disch := omega) only [↓sxA, ↓wk_store, sxB, sxP, simprocAttr]
 refine loop_rule [0, 3, 4] (PlI st s ps) (fun vs _ => match lget vs 2 with
   | .int _ k => ((s.size : Int) - k).toNat
   | _ => 0) ?_ ?_ ?_
 ·rfl
 ·refine ⟨_, rfl, ⟨0, [], ps, .slice none 0 0, rfl, Nat.zero_le _, Nat.le_refl _, RG.nil _, hp, rfl⟩, ?_⟩
  show ((s.size : Int) - 0).toNat < 100000
  omega
 ·rintro vs st' ⟨i, l, r, v, rfl, i1, i2, hI, hR, i4⟩
  show sx _ _ _ _ _ [(0, _), (3, _), (4, _)] _ _ _ _
  have go : ∀ (j : Nat) (l' r' : List Nat) (v' : Value) (s2 : St), i < j → j ≤ s.size → l'.length ≤ j → RG st s2 v' (ints l') → PlR s.data.toList j r' → ps = l' ++ r' →
    ∃ vs', some [.string s, v', .int .i64 ((j : Nat) : Int)] = some vs' ∧ PlI st s ps vs' s2 ∧ (match lget vs' 2 with
     | .int _ k => ((s.size : Int) - k).toNat
     | _ => 0) < ((s.size : Int) - i).toNat := fun j l' r' v' s2 k1 k2 k3 k4 k5 k6 => by
   refine ⟨_, rfl, ⟨j, l', r', v', rfl, k2, k3, k4, k5, k6⟩, ?_⟩
   show ((s.size : Int) - j).toNat < ((s.size : Int) - i).toNat
   omega
  by_cases hi : i < s.size
  ·obtain ⟨c, hc, hg, hb⟩ := byte_at s i hi
   by_cases c32 : c = 32
   ·subst c32
    have a32 : (((32 : UInt8).toNat : Int) = 32) = True := eq_true (by decide)
    simp (disch := omega) only [q_indexStr, Int.toNat_natCast, hg, a32, ↓sxA, ↓wk_store, sxB, sxP, simprocAttr]
    exact go (i + 1) l r v st' (by omega) (by omega) (by omega) hI (hR.hit hc) i4
   ·have b32 : ((c.toNat : Int) = 32) = False := eq_false fun e => c32 (u8_eq (n := 32) e)
    obtain ⟨to, r', rfl, hR', t1, t2, t3, t4, t5⟩ := hR.word hc c32
    have hpl : ∀ l : List Nat, (ints l).length = l.length := fun l => by simp [ints]
    have e2 : ints l ++ [.int .i64 (i : Nat)] = ints (l ++ [i]) := by simp [ints]
    have i4' : ps = (l ++ [i]) ++ r' := by rw [i4]; simp
    by_cases c61 : c = 61
    ·subst c61
     have a61 : (((61 : UInt8).toNat : Int) = 61) = True := eq_true (by decide)
     simp (disch := omega) only [q_indexStr, Int.toNat_natCast, hg, b32, a61, ↓sxA, ↓wk_store, sxB, sxP, simprocAttr]
     refine hI.app (.int .i64 (i : Nat)) rfl (by rw [hpl]; omega) (by decide) fun v2 s2 hI2 => ?_
     rw [e2] at hI2
     simp (disch := omega) only [q_indexStr, Int.toNat_natCast, hg, a61, ↓sxA, ↓wk_store, sxB, sxP, simprocAttr]
     obtain rfl := t3 rfl
     exact go (i + 1) _ r' v2 s2 (by omega) (by omega) (by simp; omega) hI2 hR' i4'
    ·have b61 : ((c.toNat : Int) = 61) = False := eq_false fun e => c61 (u8_eq (n := 61) e)
     by_cases c34 : c = 34
     ·subst c34
      have a34 : (((34 : UInt8).toNat : Int) = 34) = True := eq_true (by decide)
      simp (disch := omega) only [q_indexStr, Int.toNat_natCast, hg, b32, b61, a34, ↓sxA, ↓wk_store, sxB, sxP, simprocAttr]
      refine hI.app (.int .i64 (i : Nat)) rfl (by rw [hpl]; omega) (by decide) fun v2 s2 hI2 => ?_
      rw [e2] at hI2
      simp (disch := omega) only [q_indexStr, Int.toNat_natCast, hg, b61, a34, ↓sxA, ↓wk_store, sxB, sxP, simprocAttr]
      refine kQEndR _ s (by omega) i hi ?_
      rw [t4 rfl]
      simp (disch := omega) only [↓sxA, ↓wk_store, sxB, sxP, simprocAttr]
      exact go to _ r' v2 s2 (by omega) (by omega) (by simp; omega) hI2 hR' i4'
     ·have b34 : ((c.toNat : Int) = 34) = False := eq_false fun e => c34 (u8_eq (n := 34) e)
      obtain rfl := t5 c61 c34
      simp (disch := omega) only [q_indexStr, Int.toNat_natCast, hg, b32, b61, b34, ↓sxA, ↓wk_store, sxB, sxP, simprocAttr]
      refine hI.app (.int .i64 (i : Nat)) rfl (by rw [hpl]; omega) (by decide) fun v2 s2 hI2 => ?_
      rw [e2] at hI2
      simp (disch := omega) only [q_indexStr, Int.toNat_natCast, hg, b61, b34, ↓sxA, ↓wk_store, sxB, sxP, simprocAttr]
      refine loop_rule [0, 3, 4] (fun vs s3 => s3 = s2 ∧ ∃ k : Nat, vs = [.string s, v2, .int .i64 (k : Nat)] ∧ i ≤ k ∧ k ≤ s.size ∧ pwE s.data.toList k = pwE s.data.toList i) (fun vs _ => match lget vs 2 with
        | .int _ k => ((s.size : Int) - k).toNat
        | _ => 0) ?_ ?_ ?_
      ·rfl
      ·refine ⟨_, rfl, ⟨rfl, i, rfl, Nat.le_refl _, by omega, rfl⟩, ?_⟩
       show ((s.size : Int) - (i : Int)).toNat < 100000
       omega
      ·rintro vs s3 ⟨rfl, k, rfl, k1, k2, k3⟩
       show sx _ _ _ _ _ [(0, _), (3, _), (4, _)] _ _ _ _
       have fin : pwE s.data.toList i = k → ∃ vs', some [.string s, v2, .int .i64 ((k : Nat) : Int)] = some vs' ∧ PlI st s ps vs' s3 ∧ (match lget vs' 2 with
         | .int _ k => ((s.size : Int) - k).toNat
         | _ => 0) < ((s.size : Int) - i).toNat := fun e => by
        rw [e] at hR' t1 t2
        exact go k _ r' v2 s3 t1 (by omega) (by simp; omega) hI2 hR' i4'
       by_cases hk : k < s.size
       ·obtain ⟨d, hd, hgd, hbd⟩ := byte_at s k hk
        simp (disch := omega) only [q_indexStr, Int.toNat_natCast, hgd, ↓sxA, ↓wk_store, sxB, sxP, simprocAttr]
        refine iteI (fun d1 => ?_) (fun d1 => iteI (fun d2 => ?_) (fun d2 => ?_))
        ·exact fin (by rw [← k3]; exact pwE_stop fun x hx => by rw [hd] at hx; cases hx; exact .inl (u8_eq (n := 32) d1))
        ·exact fin (by rw [← k3]; exact pwE_stop fun x hx => by rw [hd] at hx; cases hx; exact .inr (u8_eq (n := 61) d2))
        ·refine ⟨_, rfl, ⟨k + 1, by simp, by omega, hk, ?_⟩, ?_⟩
         ·rw [← k3]
          exact (pwE_hit hd (fun e => d1 (by rw [e]; rfl)) (fun e => d2 (by rw [e]; rfl))).symm
         ·show ((s.size : Int) - ((k : Int) + 1)).toNat < ((s.size : Int) - k).toNat
          omega
       ·simp (disch := omega) only [↓sxA, ↓wk_store, sxB, sxP, simprocAttr]
        exact fin (by rw [← k3]; exact pwE_stop fun x hx => by rw [byte_no s k (by omega)] at hx; cases hx)
  ·simp (disch := omega) only [↓sxA, ↓wk_store, sxB, sxP, simprocAttr]
   have hr0 := hR.end (by omega)
   subst hr0
   rw [List.append_nil] at i4
   subst i4
   exact h v st' hI.out.cel.1 hI.o2 hI.frm
end
end Go.Proofs.YtjomiadmminhfaaGreatDoor
end
