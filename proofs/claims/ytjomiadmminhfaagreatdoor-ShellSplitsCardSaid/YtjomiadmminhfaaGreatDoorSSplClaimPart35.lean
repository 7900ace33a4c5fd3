/-
  Signs; the laws' own machine, above the rest.
  A command is taken apart: in plain words, and by the program.
  A command is taken apart, by the chapter.
  ShellSplits on the second machine.
-/
import Derived.Test.YtjomiadmminhfaaGreatDoorSSplClaimPart29
import Derived.Test.YtjomiadmminhfaaGreatDoorSSplClaimPart34
section
set_option linter.unusedSimpArgs false
set_option linter.unusedVariables false
set_option maxRecDepth 10000
set_option linter.unusedSectionVars false
namespace Go.Proofs.YtjomiadmminhfaaGreatDoor
open Go.Am
open Go.RowKit (Below)

def isS (w : List UInt8) : Bool := w == [60] || w == [62] || w == [62, 62]
def sgn (x : List UInt8 × Bool) : Bool := !x.2 && isS x.1
theorem bs_inj {a b : List UInt8} : (bs a = bs b) ↔ a = b := by
 constructor
 ·intro h
  have := congrArg (fun x : ByteArray => x.data.toList) h
  rw [bs_list, bs_list] at this
  exact this
 ·rintro rfl; rfl
theorem wsS_at (l : List (List UInt8 × Bool)) (j : Nat) (h : j < l.length) : (wsS l).getD j undef = .string (bs (l[j]).1) := by
 simp [wsS, List.getD_eq_getElem?_getD, h]
theorem wsB_at (l : List (List UInt8 × Bool)) (j : Nat) (h : j < l.length) : (wsB l).getD j undef = .bool (l[j]).2 := by
 simp [wsB, List.getD_eq_getElem?_getD, h]
theorem ints_at (l : List Nat) (j : Nat) (h : j < l.length) : (ints l).getD j undef = .int .i64 ((l.getD j 0 : Nat) : Int) := by
 simp [ints, List.getD_eq_getElem?_getD, h]

noncomputable def orcS : CallF := fun f args st =>
 if f = 19 then (match args with
  | [.string s] => if hasMax st = true then .ret (wordsK s st) else .fail
  | _ => .fail)
 else if f = 5 then (match args with
  | [] => if hasMax st = true then .ret (.bool true, st) else .fail
  | _ => .fail)
 else (callO T0 orc fns 100000 60) f args st

theorem orcS_sound : FSound Tryz.prog orcS := by
 intro f vs s Q h
 unfold orcS at h
 split at h
 ·rename_i hf
  subst hf
  split at h
  ·refine ⟨⟨Tryz.f19, Tryz.func19, by kernel_rfl, by kernel_rfl⟩, ?_⟩
   split at h
   ·rename_i hc
    exact words_ok hc h
   ·exact h.elim
  ·exact h.elim
 ·split at h
  ·rename_i hf
   subst hf
   split at h
   ·refine ⟨⟨Tryz.f5, Tryz.func5, by kernel_rfl, by kernel_rfl⟩, ?_⟩
    split at h
    ·rename_i hc
     refine callOk_plain (v := .bool true) (fun μ n => .bool _) (fun B0 W0 μ w args hr hg ha => ?_) h
     cases ha
     obtain ⟨m, hm⟩ := max_cell hr hg hc
     have h0 : 0 < w.heap.size := by
      unfold hasMax at hc
      split at hc
      ·rename_i m' g ro hget
       have := (hr.known 0 _ hget).2.1
       omega
      ·cases hc
     exact awake_calls w m hm h0
    ·exact h.elim
   ·exact h.elim
  ·exact (callO_sound (by kernel_rfl) T0_ok orc_sound (lookFn_ok fns_ok) 100000 60 T0_dfr) f vs s Q h

/-- the law, and what calls Words -/
def tblS : List (Nat × GFn) := [(3, g3), (8, g8), (20, g20)]
abbrev fnsS : FuncId → Option AFn := lookFn tblS
theorem fnsS_ok : AllOk Tryz.prog tblS := ⟨g3_ok, g8_ok, g20_ok, trivial⟩
theorem soundS (M n : Nat) : FSound Tryz.prog (callO T0 orcS fnsS M n) := callO_sound (by kernel_rfl) T0_ok orcS_sound (lookFn_ok fnsS_ok) M n T0_dfr

attribute [local irreducible] callO wopK ropK popK opK grpsE listE sx Runs

section
variable {st : St} {K : Value → St → Prop} {M : Nat}
/-- below the laws -/
theorem kBelow {f : FuncId} {args : List Value} (n : Nat) (h1 : fnsS f = none) (h2 : f ≠ 19 ∧ f ≠ 5) (h : callK (callO T0 orc fns 100000 60) f args st K) : callK (callO T0 orcS fnsS M n) f args st K := by
 rw [callO_none h1]
 unfold callK orcS
 rw [if_neg h2.1, if_neg h2.2]
 exact h
theorem kAwake (n : Nat) (hm : hasMax st = true) (h : K (.bool true) st) : callK (callO T0 orcS fnsS M n) 5 [] st K := by
 rw [callO_none (by rfl)]
 have e : orcS 5 [] st = .ret (.bool true, st) := by
  unfold orcS
  rw [if_neg (by decide), if_pos rfl]
  simp only [hm, if_true]
 exact (propext (callK_ret (K := K) e)).mpr h
theorem kWords (n : Nat) (s : ByteArray) (hm : hasMax st = true)
  (h : ∀ l e v u st', WO s l e → Cel st' v (wsS l) → Cel st' u (wsB l) → ow v ≤ st'.next ∧ ow u ≤ st'.next → oneCell v = true ∧ oneCell u = true → Frm st st' → K (.tuple #[v, u, .int .i64 e]) st') :
  callK (callO T0 orcS fnsS M n) 19 [.string s] st K := by
 rw [callO_none (by rfl)]
 have e : orcS 19 [.string s] st = .ret ((wordsK s st).1, (wordsK s st).2) := by
  unfold orcS
  rw [if_pos rfl]
  simp only [hm, if_true]
 refine (propext (callK_ret (K := K) e)).mpr ?_
 unfold wordsK
 by_cases hr : readA s = 0
 ·rw [if_neg (by rw [hr]; decide)]
  cases hw : wordsO s.data.toList with
  | none => exact h [] 250 _ _ st (.inr (.inl ⟨hr, hw, rfl, rfl⟩)) (.inl ⟨rfl, rfl⟩) (.inl ⟨rfl, rfl⟩) ⟨Nat.zero_le _, Nat.zero_le _⟩ ⟨rfl, rfl⟩ (Frm.refl _)
  | some l =>
   cases l with
   | nil => exact h [] 0 _ _ st (.inr (.inr ⟨hr, hw, rfl⟩)) (.inl ⟨rfl, rfl⟩) (.inl ⟨rfl, rfl⟩) ⟨Nat.zero_le _, Nat.zero_le _⟩ ⟨rfl, rfl⟩ (Frm.refl _)
   | cons x l =>
    refine h (x :: l) 0 _ _ _ (.inr (.inr ⟨hr, hw, rfl⟩)) ?_ ?_ ⟨Nat.le_succ _, Nat.le_refl _⟩ ⟨rfl, rfl⟩ ((Frm.new _ _).trans (Frm.new _ _))
    ·refine cel_row (g := 1) (ro := false) ?_ (by simp [wsS])
     rw [get_new_ne _ _ _ (by show st.next + 1 ≠ st.next; omega), get_new_same]
    ·exact cel_row (g := 1) (ro := false) (get_new_same _ _) (by simp [wsB])
 ·rw [if_pos hr]
  exact h [] _ _ _ st (.inl ⟨hr, rfl, rfl⟩) (.inl ⟨rfl, rfl⟩) (.inl ⟨rfl, rfl⟩) ⟨Nat.zero_le _, Nat.zero_le _⟩ ⟨rfl, rfl⟩ (Frm.refl _)

theorem kSign (n : Nat) {bq bw : Nat} {u v : Value} {gq gw : Nat} {rq rw' : Bool} {l : List (List UInt8 × Bool)} (hq : st.get bq = some (.row [u] gq rq)) (hw : st.get bw = some (.row [v] gw rw')) (hu : Cel st u (wsB l)) (hv : Cel st v (wsS l)) (hl : l.length ≤ 90000) (j : Nat) (hj : j < l.length)
  (h : K (.bool (sgn l[j])) st) : callK (callO T0 orcS fnsS 100000 (n + 1)) 20 [.int .i64 (j : Nat), .pointer (some ⟨bq, 0, none⟩), .pointer (some ⟨bw, 0, none⟩)] st K := by
 refine fn_runs (fn := g20) ?_ ?_ ?_
 ·rfl
 ·rfl
 unfold g20
 have i1 := idx_cel hu
 have l1 := load_cel hu
 have i2 := idx_cel hv
 have l2 := load_cel hv
 have hbl : (wsB l).length = l.length := by simp [wsB]
 have hsl : (wsS l).length = l.length := by simp [wsS]
 rw [hbl] at i1 l1
 rw [hsl] at i2 l2
 have e1 := wsB_at l j hj
 have e2 := wsS_at l j hj
 unfold sgn at h
 generalize l[j] = x at h e1 e2
 obtain ⟨w, q⟩ := x
 simp only at h e1 e2
 cases q with
 | true =>
  simp (disch := omega) only [↓sxA, ↓wk_store, sxB, sxP, simprocAttr, hq, hw, ↓i1, ↓l1, Int.toNat_natCast, e1]
  exact h
 | false =>
  have a1 : (bs w = (⟨#[60]⟩ : ByteArray)) = (w = [60]) := propext (bs_inj (b := [60]))
  have a2 : (bs w = (⟨#[62]⟩ : ByteArray)) = (w = [62]) := propext (bs_inj (b := [62]))
  have a3 : (bs w = (⟨#[62, 62]⟩ : ByteArray)) = (w = [62, 62]) := propext (bs_inj (b := [62, 62]))
  by_cases w1 : w = [60]
  ·have f1 : (w = [60]) = True := eq_true w1
   simp (disch := omega) only [↓sxA, ↓wk_store, sxB, sxP, simprocAttr, hq, hw, ↓i1, ↓l1, ↓i2, ↓l2, Int.toNat_natCast, e1, e2, a1, f1]
   rw [w1] at h
   exact h
  ·have f1 : (w = [60]) = False := eq_false w1
   by_cases w2 : w = [62]
   ·have f2 : (w = [62]) = True := eq_true w2
    simp (disch := omega) only [↓sxA, ↓wk_store, sxB, sxP, simprocAttr, hq, hw, ↓i1, ↓l1, ↓i2, ↓l2, Int.toNat_natCast, e1, e2, a1, a2, f1, f2]
    rw [w2] at h
    exact h
   ·have f2 : (w = [62]) = False := eq_false w2
    by_cases w3 : w = [62, 62]
    ·have f3 : (w = [62, 62]) = True := eq_true w3
     simp (disch := omega) only [↓sxA, ↓wk_store, sxB, sxP, simprocAttr, hq, hw, ↓i1, ↓l1, ↓i2, ↓l2, Int.toNat_natCast, e1, e2, a1, a2, a3, f1, f2, f3]
     rw [w3] at h
     exact h
    ·have f3 : (w = [62, 62]) = False := eq_false w3
     have hs : isS w = false := by simp [isS, w1, w2, w3]
     rw [hs] at h
     simp (disch := omega) only [↓sxA, ↓wk_store, sxB, sxP, simprocAttr, hq, hw, ↓i1, ↓l1, ↓i2, ↓l2, Int.toNat_natCast, e1, e2, a1, a2, a3, f1, f2, f3]
     exact h
end
end Go.Proofs.YtjomiadmminhfaaGreatDoor
end
section
set_option linter.unusedSimpArgs false
set_option linter.unusedVariables false
set_option maxRecDepth 10000
set_option linter.unusedSectionVars false
namespace Go.Am
theorem resP_5 (e : Env) (s : St) (a b c d f : Nat) (Q : Value → St → Prop) : resP e s [(a, 0), (b, 0), (c, 0), (d, 0), (f, 0)] Q = getE e a fun u => getE e b fun v => getE e c fun w => getE e d fun x => getE e f fun y => Q (.tuple #[u, v, w, x, y]) s := by
 unfold resP getE
 simp only [resE, res1E]
 cases e.get? a <;> cases e.get? b <;> cases e.get? c <;> cases e.get? d <;> cases e.get? f <;> rfl
end Go.Am
namespace Go.Proofs.YtjomiadmminhfaaGreatDoor
open Go.Am

abbrev at' (l : List (List UInt8 × Bool)) (j : Nat) : List UInt8 × Bool := l.getD j ([], false)
def rdFin (l : List (List UInt8 × Bool)) (e : Nat) (f t : List UInt8) (a : Bool) : Option (Nat × List UInt8 × List UInt8 × Bool) := if (l.take e).any sgn = true then none else some (e, f, t, a)
/-- pairs of a sign and a word are taken off, from the end -/
def rdr (l : List (List UInt8 × Bool)) : Nat → Bool → Bool → List UInt8 → List UInt8 → Bool → Option (Nat × List UInt8 × List UInt8 × Bool)
 | 0, _, _, f, t, a => rdFin l 0 f t a
 | 1, _, _, f, t, a => rdFin l 1 f t a
 | e + 2, inn, out, f, t, a =>
  if sgn (at' l e) = true ∧ sgn (at' l (e + 1)) = false then
   if (at' l e).1 = [60] then (if inn = true then none else rdr l e true out (at' l (e + 1)).1 t a)
   else (if out = true then none else rdr l e inn true f (at' l (e + 1)).1 ((at' l e).1 == [62, 62]))
  else rdFin l (e + 2) f t a
def rdA (L : List UInt8) (l : List (List UInt8 × Bool)) (ps : List Nat) : Option (List UInt8 × List UInt8 × List UInt8 × Bool) :=
 (rdr l l.length false false [] [] false).map fun x => (trm (if x.1 < l.length then L.take (ps.getD x.1 0) else L), x.2.1, x.2.2.1, x.2.2.2)
def rdE (e : Int) : Value := .tuple #[.string .empty, .string .empty, .string .empty, .bool false, .int .i64 e]
def rdV (o : Option (List UInt8 × List UInt8 × List UInt8 × Bool)) : Value := match o with
 | none => rdE 250
 | some x => .tuple #[.string (bs x.1), .string (bs x.2.1), .string (bs x.2.2.1), .bool x.2.2.2, .int .i64 0]
theorem getD_get {α : Type} (l : List α) (d : α) (j : Nat) (h : j < l.length) : l.getD j d = l[j] := by simp [List.getD_eq_getElem?_getD, h]
theorem rdr_one {l : List (List UInt8 × Bool)} {e : Nat} (he : e < 2) (inn out : Bool) (f t : List UInt8) (a : Bool) : rdr l e inn out f t a = rdFin l e f t a := by
 match e, he with
 | 0, _ => rfl
 | 1, _ => rfl
theorem PlR.le {L : List UInt8} {p : Nat} {r : List Nat} (h : PlR L p r) : p ≤ L.length → ∀ x, x ∈ r → x ≤ L.length := by
 induction h with
 | fin _ => intro _ x hx; cases hx
 | wd h k ih =>
  intro hp x hx
  obtain ⟨_, _, n3, n4, _⟩ := nxt_wd hp h
  rcases List.mem_cons.1 hx with rfl | hx
  ·omega
  ·exact ih n4 x hx
theorem PlR.len {L : List UInt8} {p : Nat} {r : List Nat} (h : PlR L p r) : p ≤ L.length → p + r.length ≤ L.length := by
 induction h with
 | fin _ => intro hp; simpa using hp
 | wd h k ih =>
  intro hp
  obtain ⟨_, n2, n3, n4, _⟩ := nxt_wd hp h
  have := ih n4
  simp only [List.length_cons]
  omega
theorem PlR.unique {L : List UInt8} {p : Nat} {r r' : List Nat} (h : PlR L p r) (k : PlR L p r') : r = r' := by
 induction h generalizing r' with
 | fin h =>
  cases k with
  | fin _ => rfl
  | wd k _ => rw [h] at k; cases k
 | wd h _ ih =>
  cases k with
  | fin k => rw [h] at k; cases k
  | wd k k2 =>
   rw [h] at k
   cases k
   rw [ih k2]
theorem wordsO_some {L : List UInt8} {l : List (List UInt8 × Bool)} (h : wordsO L = some l) : WsR L 0 (some l) := by
 unfold wordsO at h
 split at h
 ·rename_i hx
  have := Classical.choose_spec hx
  rw [h] at this
  exact this
 ·cases h
theorem WO.good {s : ByteArray} {l : List (List UInt8 × Bool)} {e : Int} (h : WO s l e) (he : e = 0) : s.size ≤ 1000 ∧ WsR s.data.toList 0 (some l) := by
 rcases h with ⟨h1, _, h3⟩ | ⟨_, _, _, h4⟩ | ⟨h1, h2, _⟩
 ·exact (h1 (h3.symm.trans he)).elim
 ·rw [h4] at he; cases he
 ·exact ⟨(read0 h1).1, wordsO_some h2⟩

theorem at_sgn {l : List (List UInt8 × Bool)} {j : Nat} (h : j < l.length) : sgn l[j] = sgn (at' l j) := by show _ = sgn (l.getD j ([], false)); rw [getD_get l _ j h]
attribute [local irreducible] callO wopK ropK popK opK grpsE listE sx Runs

section
variable {st : St} {K : Value → St → Prop} {M : Nat}

abbrev sgnC (bq bw : Nat) : Value := .func (.func 20) #[] #[.pointer (some ⟨bq, 0, none⟩), .pointer (some ⟨bw, 0, none⟩)]

def RdI (s : ByteArray) (l : List (List UInt8 × Bool)) (bq bw : Nat) (av : Value) (vs : List Value) : Prop :=
 ∃ (e : Nat) (inn out : Bool) (f t : List UInt8) (a : Bool), vs = [.string s, .string (bs f), .string (bs t), .bool a, .pointer (some ⟨bw, 0, none⟩), sgnC bq bw, av, .int .i64 (e : Nat), .bool inn, .bool out] ∧ e ≤ l.length ∧
  rdr l l.length false false [] [] false = rdr l e inn out f t a

set_option maxHeartbeats 4000000 in
theorem kRedirect (n : Nat) (s : ByteArray) (hs : s.size ≤ 80000) (hm : hasMax st = true)
  (h : ∀ l e r st', WO s l e → (e ≠ 0 → r = rdE e) → (e = 0 → ∃ ps, PlR s.data.toList 0 ps ∧ ps.length = l.length ∧ r = rdV (rdA s.data.toList l ps)) → Frm st st' → K r st') :
  callK (callO T0 orcS fnsS 100000 (n + 2)) 8 [.string s] st K := by
 refine fn_runs (fn := g8) ?_ ?_ ?_
 ·rfl
 ·rfl
 unfold g8
 have hsz := size_list s
 simp (disch := omega) only [↓sxA, ↓wk_store, sxB, sxP, simprocAttr]
 refine kWords _ s hm fun l e v u s1 hW hv hu ho hone F1 => ?_
 have c1 := one_cells hone.1
 have c2 := one_cells hone.2
 have o1 := hone.1
 have o2 := hone.2
 have g1 : ∀ (A B : AObj), ((s1.new A).new B).get s1.next = some A := fun A B => (get_new_ne _ _ _ (by show s1.next + 1 ≠ s1.next; omega)).trans (get_new_same _ _)
 have g2 : ∀ (A B : AObj) (o : Option AObj), (((s1.new A).new B).put s1.next o).get (s1.next + 1) = some B := fun A B o => (get_put_ne _ _ _ _ (by omega)).trans (get_new_same _ _)
 simp (disch := omega) only [↓sxA, ↓wk_store, sxB, sxP, simprocAttr, c1, c2, o1, o2, g1, g2]
 have F2 : Frm s1 ((((s1.new (.row [.slice none 0 0] 0 false)).new (.row [.slice none 0 0] 0 false)).put s1.next (some (.row [v] 0 false))).put (s1.next + 1) (some (.row [u] 0 false))) :=
  ⟨Nat.le_add_right _ 2, fun i hi => (get_put_ne _ _ _ _ (by omega)).trans ((get_put_ne _ _ _ _ (by omega)).trans ((get_new_ne _ _ _ (by show s1.next + 1 ≠ i; omega)).trans (get_new_ne _ _ _ (by omega))))⟩
 have q7 : ((((s1.new (.row [.slice none 0 0] 0 false)).new (.row [.slice none 0 0] 0 false)).put s1.next (some (.row [v] 0 false))).put (s1.next + 1) (some (.row [u] 0 false))).get s1.next = some (.row [v] 0 false) := (get_put_ne _ _ _ _ (by omega)).trans (get_put_same _ _ _)
 have q8 : ((((s1.new (.row [.slice none 0 0] 0 false)).new (.row [.slice none 0 0] 0 false)).put s1.next (some (.row [v] 0 false))).put (s1.next + 1) (some (.row [u] 0 false))).get (s1.next + 1) = some (.row [u] 0 false) := get_put_same _ _ _
 have nx2 : s1.next + 2 ≤ ((((s1.new (.row [.slice none 0 0] 0 false)).new (.row [.slice none 0 0] 0 false)).put s1.next (some (.row [v] 0 false))).put (s1.next + 1) (some (.row [u] 0 false))).next := Nat.le_refl _
 generalize (((s1.new (.row [.slice none 0 0] 0 false)).new (.row [.slice none 0 0] 0 false)).put s1.next (some (.row [v] 0 false))).put (s1.next + 1) (some (.row [u] 0 false)) = s2 at F2 q7 q8 nx2
 refine iteI (fun he => ?_) (fun he => ?_)
 ·obtain ⟨hs1, hWs⟩ := hW.good he
  obtain ⟨ps, hps, hpl⟩ := hWs.places l rfl
  refine kBelow _ (by rfl) (by decide) ?_
  refine kPlaces _ s (by omega) ps hps fun av s3 hav hao F3 => ?_
  have hv3 : Cel s3 v (wsS l) := hv.keep fun i hi => (F3.old i (by omega)).trans (F2.old i (by omega))
  have hu3 : Cel s3 u (wsB l) := hu.keep fun i hi => (F3.old i (by omega)).trans (F2.old i (by omega))
  have r7 := (F3.old s1.next (by omega)).trans q7
  have r8 := (F3.old (s1.next + 1) (by omega)).trans q8
  have lv := len_cel hv3
  have hbl : (wsB l).length = l.length := by simp [wsB]
  have hsl : (wsS l).length = l.length := by simp [wsS]
  rw [hsl] at lv
  have la := len_cel hav
  have ia := idx_cel hav
  have ld := load_cel hav
  have iv := idx_cel hv3
  have lvd := load_cel hv3
  have hpl2 : (ints ps).length = l.length := by simp [ints, hpl]
  rw [hsl] at iv lvd
  rw [hpl2] at ia ld
  have hll : l.length ≤ 80000 := by
   have := hps.len (Nat.zero_le _)
   omega
  simp (disch := omega) only [↓sxA, ↓wk_store, sxB, sxP, simprocAttr, r7, ↓lv]
  have F : Frm st s3 := (F1.trans F2).trans F3
  have done : ∀ r, r = rdV (rdA s.data.toList l ps) → K r s3 := fun r hr => h l e r s3 hW (fun hh => (hh he).elim) (fun _ => ⟨ps, hps, hpl, hr⟩) F
  refine loop_rule [0, 3, 4, 5, 7, 10, 11, 12, 13, 14] (fun vs st' => st' = s3 ∧ RdI s l (s1.next + 1) s1.next av vs) (fun vs _ => match lget vs 7 with
    | .int _ k => k.toNat
    | _ => 0) ?_ ?_ ?_
  ·rfl
  ·refine ⟨_, rfl, ⟨rfl, l.length, false, false, [], [], false, rfl, Nat.le_refl _, rfl⟩, ?_⟩
   show (l.length : Int).toNat < 100000
   omega
  ·rintro vs st' ⟨rfl, e1, inn, out, f, t, a, rfl, i1, i2⟩
   show sx _ _ _ _ _ [(0, _), (3, _), (4, _), (5, _), (7, _), (10, _), (11, _), (12, _), (13, _), (14, _)] _ _ _ _
   by_cases hgo : 2 ≤ e1 ∧ sgn (at' l (e1 - 2)) = true ∧ sgn (at' l (e1 - 1)) = false
   ·obtain ⟨h2, hg1, hg2⟩ := hgo
    obtain ⟨e2, rfl⟩ : ∃ e2, e1 = e2 + 2 := ⟨e1 - 2, by omega⟩
    have ee : (((e2 + 2 : Nat) : Int) - 2) = (e2 : Nat) := by omega
    have ee1 : (((e2 + 2 : Nat) : Int) - 1) = ((e2 + 1 : Nat) : Int) := by omega
    have en : e2 + 2 - 2 = e2 := by omega
    have en1 : e2 + 2 - 1 = e2 + 1 := by omega
    rw [en] at hg1
    rw [en1] at hg2
    have w1 : (wsS l).getD e2 undef = .string (bs (at' l e2).1) := by rw [wsS_at l e2 (by omega), ← getD_get l ([], false) e2 (by omega)]
    have w2 : (wsS l).getD (e2 + 1) undef = .string (bs (at' l (e2 + 1)).1) := by rw [wsS_at l (e2 + 1) (by omega), ← getD_get l ([], false) (e2 + 1) (by omega)]
    have i2' : rdr l l.length false false [] [] false = if (at' l e2).1 = [60] then (if inn = true then none else rdr l e2 true out (at' l (e2 + 1)).1 t a) else (if out = true then none else rdr l e2 inn true f (at' l (e2 + 1)).1 ((at' l e2).1 == [62, 62])) := by
     rw [i2]
     show (if sgn (at' l e2) = true ∧ sgn (at' l (e2 + 1)) = false then _ else _) = _
     rw [if_pos ⟨hg1, hg2⟩]
    have bad : rdr l l.length false false [] [] false = none → K (rdE 250) st' := fun hh => done _ (by unfold rdA; rw [hh]; rfl)
    have go : ∀ (inn' out' : Bool) (f' t' : List UInt8) (a' : Bool), rdr l l.length false false [] [] false = rdr l e2 inn' out' f' t' a' →
      ∃ vs', some [.string s, .string (bs f'), .string (bs t'), .bool a', .pointer (some ⟨s1.next, 0, none⟩), sgnC (s1.next + 1) s1.next, av, .int .i64 ((e2 : Nat) : Int), .bool inn', .bool out'] = some vs' ∧ RdI s l (s1.next + 1) s1.next av vs' ∧ (match lget vs' 7 with
       | .int _ k => k.toNat
       | _ => 0) < (((e2 + 2 : Nat) : Int)).toNat := fun inn' out' f' t' a' hh => by
     refine ⟨_, rfl, ⟨e2, inn', out', f', t', a', rfl, by omega, hh⟩, ?_⟩
     show ((e2 : Nat) : Int).toNat < (((e2 + 2 : Nat) : Int)).toNat
     omega
    have a1 : (bs (at' l e2).1 = (⟨#[60]⟩ : ByteArray)) = ((at' l e2).1 = [60]) := propext (bs_inj (b := [60]))
    have a3 : (bs (at' l e2).1 = (⟨#[62, 62]⟩ : ByteArray)) = ((at' l e2).1 = [62, 62]) := propext (bs_inj (b := [62, 62]))
    simp (disch := omega) only [↓sxA, ↓wk_store, sxB, sxP, simprocAttr, ee, ee1]
    refine kSign n r8 r7 hu3 hv3 (by omega) e2 (by omega) ?_
    rw [at_sgn, hg1]
    simp (disch := omega) only [↓sxA, ↓wk_store, sxB, sxP, simprocAttr, ee, ee1]
    refine kSign n r8 r7 hu3 hv3 (by omega) (e2 + 1) (by omega) ?_
    rw [at_sgn, hg2]
    generalize at' l e2 = x at i2' hg1 w1 a1 a3
    obtain ⟨w, q⟩ := x
    simp only at i2' w1 a1 a3
    by_cases h60 : w = [60]
    ·have f1 : (w = [60]) = True := eq_true h60
     rw [if_pos h60] at i2'
     cases inn with
     | true =>
      simp (disch := omega) only [↓sxA, ↓wk_store, sxB, sxP, simprocAttr, ee, ee1, r7, ↓iv, ↓lvd, Int.toNat_natCast, w1, w2, a1, f1]
      rw [resP_5]
      simp (disch := omega) only [↓sxA, ↓wk_store, sxB, sxP, simprocAttr]
      exact bad i2'
     | false =>
      simp (disch := omega) only [↓sxA, ↓wk_store, sxB, sxP, simprocAttr, ee, ee1, r7, ↓iv, ↓lvd, Int.toNat_natCast, w1, w2, a1, f1]
      exact go true out _ t a i2'
    ·have f1 : (w = [60]) = False := eq_false h60
     rw [if_neg h60] at i2'
     cases out with
     | true =>
      simp (disch := omega) only [↓sxA, ↓wk_store, sxB, sxP, simprocAttr, ee, ee1, r7, ↓iv, ↓lvd, Int.toNat_natCast, w1, w2, a1, f1]
      rw [resP_5]
      simp (disch := omega) only [↓sxA, ↓wk_store, sxB, sxP, simprocAttr]
      exact bad i2'
     | false =>
      by_cases h62 : w = [62, 62]
      ·have f3 : (w = [62, 62]) = True := eq_true h62
       have e62 : (w == [62, 62]) = true := by rw [h62]; rfl
       rw [e62] at i2'
       simp (disch := omega) only [↓sxA, ↓wk_store, sxB, sxP, simprocAttr, ee, ee1, r7, ↓iv, ↓lvd, Int.toNat_natCast, w1, w2, a1, f1, a3, f3]
       exact go inn true f _ true i2'
      ·have f3 : (w = [62, 62]) = False := eq_false h62
       have e62 : (w == [62, 62]) = false := by simpa using h62
       rw [e62] at i2'
       simp (disch := omega) only [↓sxA, ↓wk_store, sxB, sxP, simprocAttr, ee, ee1, r7, ↓iv, ↓lvd, Int.toNat_natCast, w1, w2, a1, f1, a3, f3]
       exact go inn true f _ false i2'
   ·have hfin : rdr l l.length false false [] [] false = rdFin l e1 f t a := by
     rw [i2]
     by_cases h2 : 2 ≤ e1
     ·obtain ⟨e2, rfl⟩ : ∃ e2, e1 = e2 + 2 := ⟨e1 - 2, by omega⟩
      show (if sgn (at' l e2) = true ∧ sgn (at' l (e2 + 1)) = false then _ else _) = _
      rw [if_neg]
      rintro ⟨k1, k2⟩
      exact hgo ⟨h2, k1, k2⟩
     ·exact rdr_one (by omega) _ _ _ _ _
    clear i2
    by_cases h2 : 2 ≤ e1
    case' pos =>
     obtain ⟨e2, hee⟩ : ∃ e2, e1 = e2 + 2 := ⟨e1 - 2, by omega⟩
     have ee : ((e1 : Int) - 2) = (e2 : Nat) := by omega
     have ee1 : ((e1 : Int) - 1) = ((e2 + 1 : Nat) : Int) := by omega
     have en : e1 - 2 = e2 := by omega
     have en1 : e1 - 1 = e2 + 1 := by omega
     rw [en, en1] at hgo
     simp (disch := omega) only [↓sxA, ↓wk_store, sxB, sxP, simprocAttr, ee, ee1]
     refine kSign n r8 r7 hu3 hv3 (by omega) e2 (by omega) ?_
     rw [at_sgn]
     cases hg1 : sgn (at' l e2)
     case' true =>
      simp (disch := omega) only [↓sxA, ↓wk_store, sxB, sxP, simprocAttr, ee, ee1]
      refine kSign n r8 r7 hu3 hv3 (by omega) (e2 + 1) (by omega) ?_
      rw [at_sgn]
      have hg2 : sgn (at' l (e2 + 1)) = true := by
       cases hg2 : sgn (at' l (e2 + 1)) with
       | true => rfl
       | false => exact (hgo ⟨h2, hg1, hg2⟩).elim
      rw [hg2]
      simp (disch := omega) only [↓sxA, ↓wk_store, sxB, sxP, simprocAttr, ee, ee1]
      clear hg2
     case' false =>
      simp (disch := omega) only [↓sxA, ↓wk_store, sxB, sxP, simprocAttr, ee, ee1]
     all_goals clear hg1 ee ee1 en en1 hee
    case' neg =>
     simp (disch := omega) only [↓sxA, ↓wk_store, sxB, sxP, simprocAttr]
    all_goals
     clear h2 hgo
     refine loop_rule [0, 3, 4, 5, 7, 10, 11, 12, 79, 80] (fun vs s4 => s4 = st' ∧ ∃ i : Nat, vs = [.string s, .string (bs f), .string (bs t), .bool a, .pointer (some ⟨s1.next, 0, none⟩), sgnC (s1.next + 1) s1.next, av, .int .i64 (e1 : Nat), .int .i64 (e1 : Nat), .int .i64 (i : Nat)] ∧ i ≤ e1 ∧ (l.take i).any sgn = false) (fun vs _ => match lget vs 9 with
       | .int _ k => ((e1 : Int) - k).toNat
       | _ => 0) ?_ ?_ ?_
     ·rfl
     ·refine ⟨_, rfl, ⟨rfl, 0, rfl, Nat.zero_le _, rfl⟩, ?_⟩
      show ((e1 : Int) - 0).toNat < 100000
      omega
     ·rintro vs s4 ⟨rfl, i, rfl, k1, k2⟩
      show sx _ _ _ _ _ [(0, _), (3, _), (4, _), (5, _), (7, _), (10, _), (11, _), (12, _), (79, _), (80, _)] _ _ _ _
      by_cases hi : i < e1
      ·simp (disch := omega) only [↓sxA, ↓wk_store, sxB, sxP, simprocAttr]
       refine kSign n r8 r7 hu3 hv3 (by omega) i (by omega) ?_
       have htk : (l.take (i + 1)).any sgn = sgn l[i] := by
        rw [List.take_add_one, List.any_append, k2, List.getElem?_eq_getElem (by omega)]
        simp
       cases hg : sgn l[i] with
       | true =>
        simp (disch := omega) only [↓sxA, ↓wk_store, sxB, sxP, simprocAttr]
        rw [resP_5]
        simp (disch := omega) only [↓sxA, ↓wk_store, sxB, sxP, simprocAttr]
        refine done _ ?_
        have hany : (l.take e1).any sgn = true := by
         rw [List.any_eq_true]
         refine ⟨l[i], ?_, hg⟩
         exact List.mem_of_getElem? (i := i) (by rw [List.getElem?_take_of_lt hi]; exact List.getElem?_eq_getElem (by omega))
        unfold rdA
        rw [hfin]
        unfold rdFin
        rw [if_pos hany]
        rfl
       | false =>
        simp (disch := omega) only [↓sxA, ↓wk_store, sxB, sxP, simprocAttr]
        refine ⟨_, rfl, ⟨i + 1, by simp, hi, by rw [htk]; exact hg⟩, ?_⟩
        show ((e1 : Int) - ((i : Int) + 1)).toNat < ((e1 : Int) - i).toNat
        omega
      ·obtain rfl : i = e1 := by omega
       have hr : rdA s.data.toList l ps = some (trm (if i < l.length then s.data.toList.take (ps.getD i 0) else s.data.toList), f, t, a) := by
        unfold rdA
        rw [hfin]
        unfold rdFin
        rw [if_neg (by rw [k2]; decide)]
        rfl
       by_cases hlt : i < l.length
       ·have wi := ints_at ps i (by omega)
        have hle : ps.getD i 0 ≤ s.size := by
         rw [getD_get ps 0 i (by omega)]
         have := hps.le (Nat.zero_le _) _ (List.getElem_mem (l := ps) (n := i) (by omega))
         omega
        simp (disch := omega) only [↓sxA, ↓wk_store, sxB, sxP, simprocAttr, r7, ↓lv, ↓ia, ↓ld, Int.toNat_natCast, wi]
        refine ⟨⟨by omega, by omega⟩, ?_⟩
        refine kBelow _ (by rfl) (by decide) ?_
        refine kTrim _ _ (by rw [extract_bs, bs_size, List.length_take]; omega) ?_
        simp (disch := omega) only [↓sxA, ↓wk_store, sxB, sxP, simprocAttr]
        rw [resP_5]
        simp (disch := omega) only [↓sxA, ↓wk_store, sxB, sxP, simprocAttr]
        refine done _ ?_
        rw [hr, if_pos hlt]
        have hx : (s.extract 0 (ps.getD i 0)).data.toList = s.data.toList.take (ps.getD i 0) := by rw [extract_bs, bs_list, List.drop_zero, Nat.sub_zero]
        rw [hx]
        rfl
       ·simp (disch := omega) only [↓sxA, ↓wk_store, sxB, sxP, simprocAttr, r7, ↓lv]
        refine kBelow _ (by rfl) (by decide) ?_
        refine kTrim _ _ (by omega) ?_
        simp (disch := omega) only [↓sxA, ↓wk_store, sxB, sxP, simprocAttr]
        rw [resP_5]
        simp (disch := omega) only [↓sxA, ↓wk_store, sxB, sxP, simprocAttr]
        refine done _ ?_
        rw [hr, if_neg hlt]
        rfl
 ·rw [resP_5]
  simp (disch := omega) only [↓sxA, ↓wk_store, sxB, sxP, simprocAttr]
  exact h l e _ _ hW (fun _ => rfl) (fun hh => (he hh).elim) (F1.trans F2)
end
end Go.Proofs.YtjomiadmminhfaaGreatDoor
end
section
set_option linter.unusedSimpArgs false
set_option linter.unusedVariables false
set_option maxRecDepth 10000
set_option linter.unusedSectionVars false
namespace Go.Proofs.YtjomiadmminhfaaGreatDoor
open Go.Am
attribute [local irreducible] callO wopK ropK popK opK grpsE listE sx Runs

section
variable {st : St} {K : Value → St → Prop} {M : Nat}

theorem kIsSign (n : Nat) (w : List UInt8) (h : K (.bool (isS w)) st) : callK (callO T0 orc fns 100000 (n + 1)) 24 [.string (bs w)] st K := by
 refine fn_runs (fn := g24) ?_ ?_ ?_
 ·rfl
 ·rfl
 unfold g24
 have a1 : (bs w = (⟨#[60]⟩ : ByteArray)) = (w = [60]) := propext (bs_inj (b := [60]))
 have a2 : (bs w = (⟨#[62]⟩ : ByteArray)) = (w = [62]) := propext (bs_inj (b := [62]))
 have a3 : (bs w = (⟨#[62, 62]⟩ : ByteArray)) = (w = [62, 62]) := propext (bs_inj (b := [62, 62]))
 by_cases w1 : w = [60]
 ·have f1 : (w = [60]) = True := eq_true w1
  simp (disch := omega) only [↓sxA, ↓wk_store, sxB, sxP, simprocAttr, a1, f1]
  rw [w1] at h
  exact h
 ·have f1 : (w = [60]) = False := eq_false w1
  by_cases w2 : w = [62]
  ·have f2 : (w = [62]) = True := eq_true w2
   simp (disch := omega) only [↓sxA, ↓wk_store, sxB, sxP, simprocAttr, a1, a2, f1, f2]
   rw [w2] at h
   exact h
  ·have f2 : (w = [62]) = False := eq_false w2
   by_cases w3 : w = [62, 62]
   ·have f3 : (w = [62, 62]) = True := eq_true w3
    simp (disch := omega) only [↓sxA, ↓wk_store, sxB, sxP, simprocAttr, a1, a2, a3, f1, f2, f3]
    rw [w3] at h
    exact h
   ·have f3 : (w = [62, 62]) = False := eq_false w3
    have hs : isS w = false := by simp [isS, w1, w2, w3]
    rw [hs] at h
    simp (disch := omega) only [↓sxA, ↓wk_store, sxB, sxP, simprocAttr, a1, a2, a3, f1, f2, f3]
    exact h

def RdRI (s : ByteArray) (l : List (List UInt8 × Bool)) (ps : List Nat) (v u av : Value) (vs : List Value) : Prop :=
 ∃ (e : Nat) (inn out : Bool) (f t : List UInt8) (a : Bool), vs = [.string s, .string (bs f), .string (bs t), .bool a, v, u, av, .int .i64 ((if e < l.length then ps.getD e 0 else s.size : Nat) : Int), .int .i64 (e : Nat), .bool inn, .bool out] ∧ e ≤ l.length ∧
  rdr l l.length false false [] [] false = rdr l e inn out f t a

set_option maxHeartbeats 4000000 in
theorem kRedirectR (n : Nat) (s : ByteArray) (hs : s.size ≤ 80000)
  (h : ∀ l e r st', WO s l e → (e ≠ 0 → r = rdE e) → (e = 0 → ∃ ps, PlR s.data.toList 0 ps ∧ ps.length = l.length ∧ r = rdV (rdA s.data.toList l ps)) → Frm st st' → K r st') :
  callK (callO T0 orc fns 100000 (n + 5)) 9 [.string s] st K := by
 refine fn_runs (fn := g9) ?_ ?_ ?_
 ·rfl
 ·rfl
 unfold g9
 have hsz := size_list s
 simp (disch := omega) only [↓sxA, ↓wk_store, sxB, sxP, simprocAttr]
 refine kWordsR _ s hs fun l e v u s1 hW hv hu ho F1 => ?_
 simp (disch := omega) only [↓sxA, ↓wk_store, sxB, sxP, simprocAttr]
 refine iteI (fun he => ?_) (fun he => ?_)
 ·obtain ⟨hs1, hWs⟩ := hW.good he
  obtain ⟨ps, hps, hpl⟩ := hWs.places l rfl
  refine kPlacesR _ s (by omega) ps hps fun av s3 hav hao F3 => ?_
  have hv3 : Cel s3 v (wsS l) := hv.keep fun i hi => F3.old i (by omega)
  have hu3 : Cel s3 u (wsB l) := hu.keep fun i hi => F3.old i (by omega)
  have lv := len_cel hv3
  have hbl : (wsB l).length = l.length := by simp [wsB]
  have hsl : (wsS l).length = l.length := by simp [wsS]
  rw [hsl] at lv
  have ia := idx_cel hav
  have ld := load_cel hav
  have iv := idx_cel hv3
  have lvd := load_cel hv3
  have iu := idx_cel hu3
  have lud := load_cel hu3
  have hpl2 : (ints ps).length = l.length := by simp [ints, hpl]
  rw [hsl] at iv lvd
  rw [hbl] at iu lud
  rw [hpl2] at ia ld
  have hll : l.length ≤ 80000 := by
   have := hps.len (Nat.zero_le _)
   omega
  simp (disch := omega) only [↓sxA, ↓wk_store, sxB, sxP, simprocAttr, ↓lv]
  have F : Frm st s3 := F1.trans F3
  have done : ∀ r, r = rdV (rdA s.data.toList l ps) → K r s3 := fun r hr => h l e r s3 hW (fun hh => (hh he).elim) (fun _ => ⟨ps, hps, hpl, hr⟩) F
  refine loop_rule [0, 3, 4, 5, 7, 8, 10, 11, 12, 13, 14] (fun vs st' => st' = s3 ∧ RdRI s l ps v u av vs) (fun vs _ => match lget vs 8 with
    | .int _ k => k.toNat
    | _ => 0) ?_ ?_ ?_
  ·rfl
  ·refine ⟨_, rfl, ⟨rfl, l.length, false, false, [], [], false, ?_, Nat.le_refl _, rfl⟩, ?_⟩
   ·rw [if_neg (Nat.lt_irrefl _)]
    rfl
   show (l.length : Int).toNat < 100000
   omega
  ·rintro vs st' ⟨rfl, e1, inn, out, f, t, a, rfl, i1, i2⟩
   show sx _ _ _ _ _ [(0, _), (3, _), (4, _), (5, _), (7, _), (8, _), (10, _), (11, _), (12, _), (13, _), (14, _)] _ _ _ _
   generalize hen : (if e1 < l.length then ps.getD e1 0 else s.size) = en
   by_cases hgo : 2 ≤ e1 ∧ sgn (at' l (e1 - 2)) = true ∧ sgn (at' l (e1 - 1)) = false
   ·obtain ⟨h2, hg1, hg2⟩ := hgo
    obtain ⟨e2, rfl⟩ : ∃ e2, e1 = e2 + 2 := ⟨e1 - 2, by omega⟩
    have ee : (((e2 + 2 : Nat) : Int) - 2) = (e2 : Nat) := by omega
    have ee1 : (((e2 + 2 : Nat) : Int) - 1) = ((e2 + 1 : Nat) : Int) := by omega
    have en0 : e2 + 2 - 2 = e2 := by omega
    have en1 : e2 + 2 - 1 = e2 + 1 := by omega
    rw [en0] at hg1
    rw [en1] at hg2
    have w1 : (wsS l).getD e2 undef = .string (bs (at' l e2).1) := by rw [wsS_at l e2 (by omega), ← getD_get l ([], false) e2 (by omega)]
    have w2 : (wsS l).getD (e2 + 1) undef = .string (bs (at' l (e2 + 1)).1) := by rw [wsS_at l (e2 + 1) (by omega), ← getD_get l ([], false) (e2 + 1) (by omega)]
    have u1 : (wsB l).getD e2 undef = .bool (at' l e2).2 := by rw [wsB_at l e2 (by omega), ← getD_get l ([], false) e2 (by omega)]
    have u2 : (wsB l).getD (e2 + 1) undef = .bool (at' l (e2 + 1)).2 := by rw [wsB_at l (e2 + 1) (by omega), ← getD_get l ([], false) (e2 + 1) (by omega)]
    have i2' : rdr l l.length false false [] [] false = if (at' l e2).1 = [60] then (if inn = true then none else rdr l e2 true out (at' l (e2 + 1)).1 t a) else (if out = true then none else rdr l e2 inn true f (at' l (e2 + 1)).1 ((at' l e2).1 == [62, 62])) := by
     rw [i2]
     show (if sgn (at' l e2) = true ∧ sgn (at' l (e2 + 1)) = false then _ else _) = _
     rw [if_pos ⟨hg1, hg2⟩]
    have bad : rdr l l.length false false [] [] false = none → K (rdE 250) st' := fun hh => done _ (by unfold rdA; rw [hh]; rfl)
    have ip := ints_at ps e2 (by omega)
    have go : ∀ (inn' out' : Bool) (f' t' : List UInt8) (a' : Bool), rdr l l.length false false [] [] false = rdr l e2 inn' out' f' t' a' →
      ∃ vs', some [.string s, .string (bs f'), .string (bs t'), .bool a', v, u, av, .int .i64 ((ps.getD e2 0 : Nat) : Int), .int .i64 ((e2 : Nat) : Int), .bool inn', .bool out'] = some vs' ∧ RdRI s l ps v u av vs' ∧ (match lget vs' 8 with
       | .int _ k => k.toNat
       | _ => 0) < (((e2 + 2 : Nat) : Int)).toNat := fun inn' out' f' t' a' hh => by
     refine ⟨_, rfl, ⟨e2, inn', out', f', t', a', ?_, by omega, hh⟩, ?_⟩
     ·rw [if_pos (by omega)]
     show ((e2 : Nat) : Int).toNat < (((e2 + 2 : Nat) : Int)).toNat
     omega
    have a1 : (bs (at' l e2).1 = (⟨#[60]⟩ : ByteArray)) = ((at' l e2).1 = [60]) := propext (bs_inj (b := [60]))
    have a3 : (bs (at' l e2).1 = (⟨#[62, 62]⟩ : ByteArray)) = ((at' l e2).1 = [62, 62]) := propext (bs_inj (b := [62, 62]))
    have hq : (at' l e2).2 = false ∧ isS (at' l e2).1 = true := by
     unfold sgn at hg1
     rw [Bool.and_eq_true, Bool.not_eq_true'] at hg1
     exact hg1
    have hq2 : (at' l (e2 + 1)).2 = true ∨ isS (at' l (e2 + 1)).1 = false := by
     unfold sgn at hg2
     rw [Bool.and_eq_false_iff, Bool.not_eq_false'] at hg2
     exact hg2
    generalize at' l e2 = x at i2' hg1 w1 u1 a1 a3 hq
    generalize at' l (e2 + 1) = y at i2' hg2 w2 u2 hq2
    obtain ⟨w, q⟩ := x
    obtain ⟨w', q'⟩ := y
    simp only at i2' w1 w2 u1 u2 a1 a3 hq hq2
    obtain ⟨rfl, hsw⟩ := hq
    simp (disch := omega) only [↓sxA, ↓wk_store, sxB, sxP, simprocAttr, ee, ee1, ↓iv, ↓lvd, ↓iu, ↓lud, Int.toNat_natCast, w1, w2, u1, u2]
    refine kIsSign _ w ?_
    rw [hsw]
    simp (disch := omega) only [↓sxA, ↓wk_store, sxB, sxP, simprocAttr, ee, ee1, ↓iv, ↓lvd, ↓iu, ↓lud, Int.toNat_natCast, w1, w2, u1, u2]
    cases q'
    case' true =>
     simp (disch := omega) only [↓sxA, ↓wk_store, sxB, sxP, simprocAttr, ee, ee1, ↓iv, ↓lvd, ↓iu, ↓lud, ↓ia, ↓ld, Int.toNat_natCast, w1, w2, u1, u2]
    case' false =>
     have hsw' : isS w' = false := by
      rcases hq2 with hq2 | hq2
      ·cases hq2
      ·exact hq2
     simp (disch := omega) only [↓sxA, ↓wk_store, sxB, sxP, simprocAttr, ee, ee1, ↓iv, ↓lvd, ↓iu, ↓lud, ↓ia, ↓ld, Int.toNat_natCast, w1, w2, u1, u2]
     refine kIsSign _ w' ?_
     rw [hsw']
     simp (disch := omega) only [↓sxA, ↓wk_store, sxB, sxP, simprocAttr, ee, ee1, ↓iv, ↓lvd, ↓iu, ↓lud, ↓ia, ↓ld, Int.toNat_natCast, w1, w2, u1, u2]
     clear hsw'
    all_goals
     by_cases h60 : w = [60]
     ·have f1 : (w = [60]) = True := eq_true h60
      rw [if_pos h60] at i2'
      cases inn with
      | true =>
       simp (disch := omega) only [↓sxA, ↓wk_store, sxB, sxP, simprocAttr, ee, ee1, ↓iv, ↓lvd, ↓iu, ↓lud, ↓ia, ↓ld, Int.toNat_natCast, w1, w2, u1, u2, a1, f1]
       rw [resP_5]
       simp (disch := omega) only [↓sxA, ↓wk_store, sxB, sxP, simprocAttr]
       exact bad i2'
      | false =>
       simp (disch := omega) only [↓sxA, ↓wk_store, sxB, sxP, simprocAttr, ee, ee1, ↓iv, ↓lvd, ↓iu, ↓lud, ↓ia, ↓ld, Int.toNat_natCast, w1, w2, u1, u2, a1, f1, ip]
       exact go true out _ t a i2'
     ·have f1 : (w = [60]) = False := eq_false h60
      rw [if_neg h60] at i2'
      cases out with
      | true =>
       simp (disch := omega) only [↓sxA, ↓wk_store, sxB, sxP, simprocAttr, ee, ee1, ↓iv, ↓lvd, ↓iu, ↓lud, ↓ia, ↓ld, Int.toNat_natCast, w1, w2, u1, u2, a1, f1]
       rw [resP_5]
       simp (disch := omega) only [↓sxA, ↓wk_store, sxB, sxP, simprocAttr]
       exact bad i2'
      | false =>
       by_cases h62 : w = [62, 62]
       ·have f3 : (w = [62, 62]) = True := eq_true h62
        have e62 : (w == [62, 62]) = true := by rw [h62]; rfl
        rw [e62] at i2'
        simp (disch := omega) only [↓sxA, ↓wk_store, sxB, sxP, simprocAttr, ee, ee1, ↓iv, ↓lvd, ↓iu, ↓lud, ↓ia, ↓ld, Int.toNat_natCast, w1, w2, u1, u2, a1, f1, a3, f3, ip]
        exact go inn true f _ true i2'
       ·have f3 : (w = [62, 62]) = False := eq_false h62
        have e62 : (w == [62, 62]) = false := by simpa using h62
        rw [e62] at i2'
        simp (disch := omega) only [↓sxA, ↓wk_store, sxB, sxP, simprocAttr, ee, ee1, ↓iv, ↓lvd, ↓iu, ↓lud, ↓ia, ↓ld, Int.toNat_natCast, w1, w2, u1, u2, a1, f1, a3, f3, ip]
        exact go inn true f _ false i2'
   ·have hfin : rdr l l.length false false [] [] false = rdFin l e1 f t a := by
     rw [i2]
     by_cases h2 : 2 ≤ e1
     ·obtain ⟨e2, rfl⟩ : ∃ e2, e1 = e2 + 2 := ⟨e1 - 2, by omega⟩
      show (if sgn (at' l e2) = true ∧ sgn (at' l (e2 + 1)) = false then _ else _) = _
      rw [if_neg]
      rintro ⟨k1, k2⟩
      exact hgo ⟨h2, k1, k2⟩
     ·exact rdr_one (by omega) _ _ _ _ _
    clear i2
    by_cases h2 : 2 ≤ e1
    case' pos =>
     obtain ⟨e2, hee⟩ : ∃ e2, e1 = e2 + 2 := ⟨e1 - 2, by omega⟩
     have ee : ((e1 : Int) - 2) = (e2 : Nat) := by omega
     have ee1 : ((e1 : Int) - 1) = ((e2 + 1 : Nat) : Int) := by omega
     have en0 : e1 - 2 = e2 := by omega
     have en1 : e1 - 1 = e2 + 1 := by omega
     rw [en0, en1] at hgo
     have w1 : (wsS l).getD e2 undef = .string (bs (at' l e2).1) := by rw [wsS_at l e2 (by omega), ← getD_get l ([], false) e2 (by omega)]
     have w2 : (wsS l).getD (e2 + 1) undef = .string (bs (at' l (e2 + 1)).1) := by rw [wsS_at l (e2 + 1) (by omega), ← getD_get l ([], false) (e2 + 1) (by omega)]
     have u1 : (wsB l).getD e2 undef = .bool (at' l e2).2 := by rw [wsB_at l e2 (by omega), ← getD_get l ([], false) e2 (by omega)]
     have u2 : (wsB l).getD (e2 + 1) undef = .bool (at' l (e2 + 1)).2 := by rw [wsB_at l (e2 + 1) (by omega), ← getD_get l ([], false) (e2 + 1) (by omega)]
     generalize at' l e2 = x at hgo w1 u1
     generalize at' l (e2 + 1) = y at hgo w2 u2
     obtain ⟨w, q⟩ := x
     obtain ⟨w', q'⟩ := y
     simp only at w1 w2 u1 u2
     simp (disch := omega) only [↓sxA, ↓wk_store, sxB, sxP, simprocAttr, ee, ee1, ↓iv, ↓lvd, ↓iu, ↓lud, ↓ia, ↓ld, Int.toNat_natCast, w1, w2, u1, u2]
     refine kIsSign _ w ?_
     cases hsw : isS w
     case' false =>
      simp (disch := omega) only [↓sxA, ↓wk_store, sxB, sxP, simprocAttr, ee, ee1, ↓iv, ↓lvd, ↓iu, ↓lud, ↓ia, ↓ld, Int.toNat_natCast, w1, w2, u1, u2]
     case' true =>
      simp (disch := omega) only [↓sxA, ↓wk_store, sxB, sxP, simprocAttr, ee, ee1, ↓iv, ↓lvd, ↓iu, ↓lud, ↓ia, ↓ld, Int.toNat_natCast, w1, w2, u1, u2]
      cases q
      case' true =>
       simp (disch := omega) only [↓sxA, ↓wk_store, sxB, sxP, simprocAttr, ee, ee1, ↓iv, ↓lvd, ↓iu, ↓lud, ↓ia, ↓ld, Int.toNat_natCast, w1, w2, u1, u2]
      case' false =>
       have hy : q' = false ∧ isS w' = true := by
        have hg1 : sgn (w, false) = true := by simp [sgn, hsw]
        have hg2 : ¬ sgn (w', q') = false := fun hh => hgo ⟨h2, hg1, hh⟩
        rw [Bool.not_eq_false] at hg2
        unfold sgn at hg2
        rw [Bool.and_eq_true, Bool.not_eq_true'] at hg2
        exact hg2
       obtain ⟨rfl, hsw'⟩ := hy
       simp (disch := omega) only [↓sxA, ↓wk_store, sxB, sxP, simprocAttr, ee, ee1, ↓iv, ↓lvd, ↓iu, ↓lud, ↓ia, ↓ld, Int.toNat_natCast, w1, w2, u1, u2]
       refine kIsSign _ w' ?_
       rw [hsw']
       simp (disch := omega) only [↓sxA, ↓wk_store, sxB, sxP, simprocAttr, ee, ee1, ↓iv, ↓lvd, ↓iu, ↓lud, ↓ia, ↓ld, Int.toNat_natCast, w1, w2, u1, u2]
    case' neg =>
     simp (disch := omega) only [↓sxA, ↓wk_store, sxB, sxP, simprocAttr]
    all_goals
     refine loop_rule [0, 3, 4, 5, 7, 8, 11, 12, 17] (fun vs s4 => s4 = st' ∧ ∃ i : Nat, vs = [.string s, .string (bs f), .string (bs t), .bool a, v, u, .int .i64 (en : Nat), .int .i64 (e1 : Nat), .int .i64 (i : Nat)] ∧ i ≤ e1 ∧ (l.take i).any sgn = false) (fun vs _ => match lget vs 8 with
       | .int _ k => ((e1 : Int) - k).toNat
       | _ => 0) ?_ ?_ ?_
     ·rfl
     ·refine ⟨_, rfl, ⟨rfl, 0, rfl, Nat.zero_le _, rfl⟩, ?_⟩
      show ((e1 : Int) - 0).toNat < 100000
      omega
     ·rintro vs s4 ⟨rfl, i, rfl, k1, k2⟩
      show sx _ _ _ _ _ [(0, _), (3, _), (4, _), (5, _), (7, _), (8, _), (11, _), (12, _), (17, _)] _ _ _ _
      by_cases hi : i < e1
      ·have htk : (l.take (i + 1)).any sgn = sgn l[i] := by
        rw [List.take_add_one, List.any_append, k2, List.getElem?_eq_getElem (by omega)]
        simp
       have z1 : (wsS l).getD i undef = .string (bs (l[i]).1) := wsS_at l i (by omega)
       have z2 : (wsB l).getD i undef = .bool (l[i]).2 := wsB_at l i (by omega)
       have good : sgn l[i] = false → ∃ vs', some [.string s, .string (bs f), .string (bs t), .bool a, v, u, .int .i64 (en : Nat), .int .i64 (e1 : Nat), .int .i64 ((i : Int) + 1)] = some vs' ∧ (∃ i : Nat, vs' = [.string s, .string (bs f), .string (bs t), .bool a, v, u, .int .i64 (en : Nat), .int .i64 (e1 : Nat), .int .i64 (i : Nat)] ∧ i ≤ e1 ∧ (l.take i).any sgn = false) ∧ (match lget vs' 8 with
         | .int _ k => ((e1 : Int) - k).toNat
         | _ => 0) < ((e1 : Int) - i).toNat := fun hg => by
        refine ⟨_, rfl, ⟨i + 1, by simp, hi, by rw [htk]; exact hg⟩, ?_⟩
        show ((e1 : Int) - ((i : Int) + 1)).toNat < ((e1 : Int) - i).toNat
        omega
       have badS : sgn l[i] = true → K (rdE 250) s4 := fun hg => done _ (by
        have hany : (l.take e1).any sgn = true := by
         rw [List.any_eq_true]
         refine ⟨l[i], ?_, hg⟩
         exact List.mem_of_getElem? (i := i) (by rw [List.getElem?_take_of_lt hi]; exact List.getElem?_eq_getElem (by omega))
        unfold rdA
        rw [hfin]
        unfold rdFin
        rw [if_pos hany]
        rfl)
       clear htk
       generalize l[i] = x at z1 z2 good badS
       obtain ⟨w0, q0⟩ := x
       simp only at z1 z2
       simp (disch := omega) only [↓sxA, ↓wk_store, sxB, sxP, simprocAttr, ↓iv, ↓lvd, ↓iu, ↓lud, Int.toNat_natCast, z1, z2]
       refine kIsSign _ w0 ?_
       cases hw0 : isS w0 with
       | false =>
        simp (disch := omega) only [↓sxA, ↓wk_store, sxB, sxP, simprocAttr, ↓iv, ↓lvd, ↓iu, ↓lud, Int.toNat_natCast, z1, z2]
        exact good (by simp [sgn, hw0])
       | true =>
        cases q0 with
        | true =>
         simp (disch := omega) only [↓sxA, ↓wk_store, sxB, sxP, simprocAttr, ↓iv, ↓lvd, ↓iu, ↓lud, Int.toNat_natCast, z1, z2]
         exact good (by simp [sgn])
        | false =>
         simp (disch := omega) only [↓sxA, ↓wk_store, sxB, sxP, simprocAttr, ↓iv, ↓lvd, ↓iu, ↓lud, Int.toNat_natCast, z1, z2]
         rw [resP_5]
         simp (disch := omega) only [↓sxA, ↓wk_store, sxB, sxP, simprocAttr]
         exact badS (by simp [sgn, hw0])
      ·obtain rfl : i = e1 := by omega
       have hr : rdA s.data.toList l ps = some (trm (if i < l.length then s.data.toList.take (ps.getD i 0) else s.data.toList), f, t, a) := by
        unfold rdA
        rw [hfin]
        unfold rdFin
        rw [if_neg (by rw [k2]; decide)]
        rfl
       have hle : en ≤ s.size := by
        rw [← hen]
        split
        ·rw [getD_get ps 0 i (by omega)]
         have := hps.le (Nat.zero_le _) _ (List.getElem_mem (l := ps) (n := i) (by omega))
         omega
        ·exact Nat.le_refl _
       simp (disch := omega) only [↓sxA, ↓wk_store, sxB, sxP, simprocAttr, Int.toNat_natCast]
       refine ⟨⟨by omega, by omega⟩, ?_⟩
       refine kTrimR _ _ (by rw [extract_bs, bs_size, List.length_take]; omega) ?_
       simp (disch := omega) only [↓sxA, ↓wk_store, sxB, sxP, simprocAttr]
       rw [resP_5]
       simp (disch := omega) only [↓sxA, ↓wk_store, sxB, sxP, simprocAttr]
       refine done _ ?_
       have hx : (s.extract 0 en).data.toList = s.data.toList.take en := by rw [extract_bs, bs_list, List.drop_zero, Nat.sub_zero]
       rw [hr, hx, ← hen]
       by_cases hlt : i < l.length
       ·rw [if_pos hlt, if_pos hlt]
        rfl
       ·rw [if_neg hlt, if_neg hlt, List.take_of_length_le (by omega)]
        rfl
 ·rw [resP_5]
  simp (disch := omega) only [↓sxA, ↓wk_store, sxB, sxP, simprocAttr]
  exact h l e _ _ hW (fun _ => rfl) (fun hh => (he hh).elim) F1
end
end Go.Proofs.YtjomiadmminhfaaGreatDoor
end
section
set_option linter.unusedSimpArgs false
set_option linter.unusedVariables false
set_option maxRecDepth 10000
set_option linter.unusedSectionVars false
namespace Go.Am
section
variable {K : Value → Prop}
theorem pk_e50 (a b c d e : Value) : popK (.extract 0) [.tuple #[a, b, c, d, e]] K = K a := of_eq_true (eq_self _)
theorem pk_e51 (a b c d e : Value) : popK (.extract 1) [.tuple #[a, b, c, d, e]] K = K b := of_eq_true (eq_self _)
theorem pk_e52 (a b c d e : Value) : popK (.extract 2) [.tuple #[a, b, c, d, e]] K = K c := of_eq_true (eq_self _)
theorem pk_e53 (a b c d e : Value) : popK (.extract 3) [.tuple #[a, b, c, d, e]] K = K d := of_eq_true (eq_self _)
theorem pk_e54 (a b c d e : Value) : popK (.extract 4) [.tuple #[a, b, c, d, e]] K = K e := of_eq_true (eq_self _)
end
end Go.Am
namespace Go.Proofs.YtjomiadmminhfaaGreatDoor
open Go.Am
theorem cons1_len (p : List UInt8) (r : List (List UInt8)) : (cons1 p r).length ≤ r.length + 1 := by
 unfold cons1
 split <;> simp
theorem splA_len (L : List UInt8) : ∀ (n i fr : Nat) (b : Bool) (l : List (List UInt8)), L.length - i ≤ n → splA L i fr b = some l → l.length ≤ L.length - i + 1
 | n, i, fr, b, l, hn, h => by
  by_cases hi : i < L.length
  ·match n, hn with
   | 0, hn => omega
   | n + 1, hn =>
    rw [splA, dif_pos hi] at h
    split at h
    ·split at h
     ·cases h
     ·have hq := qeA_range (L := L) (i + 1) (by omega)
      have := splA_len L n _ fr false l (by omega) h
      omega
    ·split at h
     ·rw [Option.map_eq_some_iff] at h
      obtain ⟨l', h1, rfl⟩ := h
      have := splA_len L n (i + 1) (i + 1) true l' (by omega) h1
      have := cons1_len (piece L fr i) l'
      omega
     ·have := splA_len L n (i + 1) fr _ l (by omega) h
      omega
  ·rw [splA_end (i := i) (by omega)] at h
   cases h
   have := cons1_len (piece L fr L.length) []
   simp only [List.length_nil] at this
   omega
attribute [local irreducible] callO wopK ropK popK opK grpsE listE sx Runs

theorem rdV_form (o : Option (List UInt8 × List UInt8 × List UInt8 × Bool)) : ∃ a b c d e, rdV o = .tuple #[.string a, .string b, .string c, .bool d, .int .i64 e] := by
 cases o with
 | none => exact ⟨_, _, _, _, _, rfl⟩
 | some x => exact ⟨_, _, _, _, _, rfl⟩
theorem strs_map (l : List (List UInt8)) : strs l = (l.map bs).map Value.string := by simp [strs, List.map_map, Function.comp_def]

section
variable {st : St} {K : Value → St → Prop}

set_option maxHeartbeats 4000000 in
theorem kShellSplits (s : ByteArray) (h0 : 0 < st.next) (hm : hasMax st = true) (h : ∀ st', K (.bool true) st') :
  callK (callO T0 orcS fnsS 100000 4) 3 [.string s] st K := by
 refine fn_runs (fn := g3) ?_ ?_ ?_
 ·rfl
 ·rfl
 unfold g3
 simp (disch := omega) only [↓sxA, ↓wk_store, sxB, sxP, simprocAttr]
 refine iteI (fun c1 => ?_) (fun c1 => ?_)
 ·refine kAwake _ hm ?_
  simp (disch := omega) only [↓sxA, ↓wk_store, sxB, sxP, simprocAttr]
  exact h _
 ·have hs : s.size ≤ 2000 := by omega
  refine kBelow _ (by rfl) (by decide) ?_
  refine kSplit _ s (by omega) fun v e s1 hv ov F1 => ?_
  simp (disch := omega) only [↓sxA, ↓wk_store, sxB, sxP, simprocAttr]
  refine kBelow _ (by rfl) (by decide) ?_
  refine kSplitR _ s (by omega) fun v' e' s2 hv' ov' F2 => ?_
  simp (disch := omega) only [↓sxA, ↓wk_store, sxB, sxP, simprocAttr]
  refine kRedirect _ s (by omega) ((F1.trans F2).max (by omega) hm) fun l f r s3 hW hr1 hr2 F3 => ?_
  have hform : ∃ a b c d g, r = .tuple #[.string a, .string b, .string c, .bool d, .int .i64 g] := by
   by_cases hf : f = 0
   ·obtain ⟨ps, _, _, hr⟩ := hr2 hf
    rw [hr]
    exact rdV_form _
   ·rw [hr1 hf]
    exact ⟨_, _, _, _, _, rfl⟩
  obtain ⟨a, b, c, d, g, hre⟩ := hform
  rw [hre]
  simp (disch := omega) only [↓sxA, ↓wk_store, sxB, sxP, simprocAttr, ↓pk_e50, ↓pk_e51, ↓pk_e52, ↓pk_e53, ↓pk_e54]
  refine kBelow _ (by rfl) (by decide) ?_
  refine kRedirectR _ s (by omega) fun l' f' r' s4 hW' hr1' hr2' F4 => ?_
  obtain ⟨rfl, rfl⟩ := hW.unique hW'
  have hrr : r' = r := by
   by_cases hf : f = 0
   ·obtain ⟨ps, k1, _, hr⟩ := hr2 hf
    obtain ⟨ps', k1', _, hr'⟩ := hr2' hf
    rw [hr, hr', k1.unique k1']
   ·rw [hr1 hf, hr1' hf]
  rw [hrr, hre]
  simp (disch := omega) only [↓sxA, ↓wk_store, sxB, sxP, simprocAttr, ↓pk_e50, ↓pk_e51, ↓pk_e52, ↓pk_e53, ↓pk_e54]
  have hE : ∃ xs : List ByteArray, Cel s1 v (xs.map Value.string) ∧ Cel s2 v' (xs.map Value.string) ∧ e = e' ∧ xs.length ≤ 2001 := by
   cases hx : splA s.data.toList 0 0 true with
   | none =>
    rw [hx] at hv hv'
    obtain ⟨rfl, rfl⟩ := hv
    obtain ⟨rfl, rfl⟩ := hv'
    exact ⟨[], .inl ⟨rfl, rfl⟩, .inl ⟨rfl, rfl⟩, rfl, by simp⟩
   | some m =>
    rw [hx] at hv hv'
    obtain ⟨k1, rfl⟩ := hv
    obtain ⟨k2, rfl⟩ := hv'
    rw [strs_map] at k1 k2
    refine ⟨_, k1, k2, rfl, ?_⟩
    have := splA_len _ _ _ _ _ _ (Nat.le_refl _) hx
    rw [List.length_map]
    rw [size_list] at hs
    omega
  obtain ⟨xs, k1, k2, rfl, k3⟩ := hE
  have F24 := F3.trans F4
  have F14 := F2.trans F24
  have k1' : Cel s4 v (xs.map Value.string) := k1.keep fun i hi => F14.old i (by omega)
  have k2' : Cel s4 v' (xs.map Value.string) := k2.keep fun i hi => F24.old i (by omega)
  refine kBelow _ (by rfl) (by decide) ?_
  refine kEqStrs _ (xs := xs) k1' k2' (by omega) ?_
  simp (disch := omega) only [↓sxA, ↓wk_store, sxB, sxP, simprocAttr]
  refine kAwake _ (((F1.trans F14)).max (by omega) hm) ?_
  simp (disch := omega) only [↓sxA, ↓wk_store, sxB, sxP, simprocAttr]
  exact h _
end
end Go.Proofs.YtjomiadmminhfaaGreatDoor
end
