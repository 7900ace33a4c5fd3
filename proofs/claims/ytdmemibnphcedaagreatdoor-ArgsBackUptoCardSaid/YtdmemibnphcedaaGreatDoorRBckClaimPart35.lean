/-
  How a list is written as a line, in plain words; the item with a name, for any text.
-/
import Derived.Test.YtdmemibnphcedaaGreatDoorRBckClaimPart33
import Derived.Test.YtdmemibnphcedaaGreatDoorRBckClaimPart34
set_option linter.unusedSimpArgs false
set_option linter.unusedVariables false
set_option maxRecDepth 10000
set_option linter.unusedSectionVars false
namespace Go.Proofs.YtdmemibnphcedaaGreatDoor
open Go.Am

/-- what is gathered, item by item -/
structure Acc where
 out : List ByteArray
 last : List ByteArray
 whole : Bool
 several : List ByteArray
 name : ByteArray
def Acc.zero : Acc := ⟨[], [], true, [], .empty⟩
def fst (c : Cl) : ByteArray := c.vals.headD .empty
def wholeA (m : Mk) (c : Cl) (w : Bool) : Bool := w && ((m.s || m.k) || m.m || (!m.f && c.set))
def accS (m : Mk) (nm : ByteArray) (c : Cl) (a : Acc) : Acc :=
 if c.set = false then { a with whole := wholeA m c a.whole }
 else if m.s = true then { a with whole := wholeA m c a.whole, out := a.out ++ [nm] }
 else if m.m = true then { a with whole := wholeA m c a.whole, several := c.vals, name := nm }
 else if m.f = true then { a with whole := wholeA m c a.whole, last := [nm, fst c] }
 else { a with whole := wholeA m c a.whole, out := a.out ++ [nm, bs (quoteL (fst c).data.toList)] }
def itAt (l : List IM) (j : Nat) : IM := l.getD j ⟨[], Mk.none⟩
def accL (l : List IM) (ns : List ByteArray) (cs : List Cl) : Nat → Acc
 | 0 => Acc.zero
 | j + 1 => accS (itAt l j).mks (ns.getD j .empty) (clAt cs j) (accL l ns cs j)

/-- one of several values, where it stands without a name -/
noncomputable def sevT (l : List IM) (v : ByteArray) : ByteArray := if 0 ≤ knownL (lowerV v) l 0 then bs (34 :: (escL v.data.toList ++ [34])) else bs (quoteL v.data.toList)

def allAlong (l : List IM) (ns : List ByteArray) (cs : List Cl) : Prop := ∀ j, j < l.length → alongA (itAt l j) (ns.getD j .empty) (clAt cs j) = true
/-- the words of the line, of what was gathered -/
noncomputable def fmtB (l : List IM) (a : Acc) : Option (List ByteArray) :=
 if a.whole = true then some (a.out ++ a.several.map (sevT l) ++ a.last)
 else match a.several with
  | [] => some (a.out ++ a.last)
  | [v] => some (a.out ++ [a.name, bs (quoteL v.data.toList)] ++ a.last)
  | _ => none
open Classical in
/-- the words of the line; none: the list does not go with the items -/
noncomputable def fmtA (l : List IM) (ns : List ByteArray) (cs : List Cl) : Option (List ByteArray) :=
 if allAlong l ns cs then fmtB l (accL l ns cs l.length) else none
/-- the line, or the error -/
def lineE (o : Option (List ByteArray)) : ByteArray × Int := match o with
 | none => (.empty, 3)
 | some ws => if 1000 < (Lib.join (ws.map (·.data.toList)) [32]).length then (.empty, 2) else (bs (Lib.join (ws.map (·.data.toList)) [32]), 0)
def FmtO (t : ByteArray) (ns : List ByteArray) (cs : List Cl) (v : ByteArray) (e : Int) : Prop :=
 ∃ l eT, TmA t l eT ∧ ((eT ≠ 0 ∧ v = .empty ∧ e = eT) ∨ (eT = 0 ∧ cs.length ≠ l.length ∧ v = .empty ∧ e = 3) ∨ (eT = 0 ∧ cs.length = l.length ∧ (v, e) = lineE (fmtA l ns cs)))
theorem FmtO.unique {t : ByteArray} {ns : List ByteArray} {cs : List Cl} {v v' : ByteArray} {e e' : Int} (h : FmtO t ns cs v e) (k : FmtO t ns cs v' e') : v = v' ∧ e = e' := by
 obtain ⟨l, eT, h1, h2⟩ := h
 obtain ⟨l', eT', k1, k2⟩ := k
 obtain ⟨rfl, rfl⟩ := h1.unique k1
 rcases h2 with ⟨a1, a2, a3⟩ | ⟨a1, a2, a3, a4⟩ | ⟨a1, a2, a3⟩ <;> rcases k2 with ⟨b1, b2, b3⟩ | ⟨b1, b2, b3, b4⟩ | ⟨b1, b2, b3⟩
 ·exact ⟨a2.trans b2.symm, a3.trans b3.symm⟩
 ·exact (a1 b1).elim
 ·exact (a1 b1).elim
 ·exact (b1 a1).elim
 ·exact ⟨a3.trans b3.symm, a4.trans b4.symm⟩
 ·exact (a2 b2).elim
 ·exact (b1 a1).elim
 ·exact (b2 a2).elim
 ·have := a3.trans b3.symm
  exact ⟨congrArg Prod.fst this, congrArg Prod.snd this⟩

/-- the bounds that the laws leave -/
def Small (cs : List Cl) : Prop := cs.length < 5000 ∧ ∀ j, (clAt cs j).vals.length ≤ 5000 ∧ ∀ v ∈ (clAt cs j).vals, v.size ≤ 10000
theorem ok_ascii {s : ByteArray} (h : okT s = true) : asciiB s = true := by
 unfold okT at h
 unfold asciiB
 rw [List.all_eq_true] at h ⊢
 intro c hc
 rcases (okB_it c).1 (h c hc) with q | q <;> exact decide_eq_true (by omega)

section
variable {st : St} {v : Value}
/-- m elements are laid behind n -/
theorem appendM {esz bytes n m : Nat} {cs new : List Value} {u : Value} (hv : GroK esz st v cs n) (s1 : srcLen u = some m) (s2 : st.srcCells esz u = some new) (hl : new.length = m * esz) (he : 0 < esz) (hm : 0 < m) (ho : new.all oneCell = true) (hb : (n + m) * bytes ≤ 1099511627776) (hn : n + m ≤ 1099511627776) {W : Value → St → Prop}
  (h : ∀ st', GroK esz st' (.slice (some ⟨st.next, 0, none⟩) (n + m) (n + m)) (cs ++ new) (n + m) → st'.next = st.next + 1 → (∀ i, i + 1 ≠ ow v → i < st.next → st'.get i = st.get i) → W (.slice (some ⟨st.next, 0, none⟩) (n + m) (n + m)) st') :
  wopK (.append esz bytes) [v, u] st W := by
 have e0 : esz ≠ 0 := by omega
 have m0 : m ≠ 0 := by omega
 simp only [wopK, wop, appendV, s1, s2, m0, if_false, ho, not_true_eq_false, or_false, e0]
 rcases hv with ⟨q1, q2, q3⟩ | ⟨b, cap, q1, q2, q3, q4⟩
 ·subst q1 q2 q3
  rw [Nat.zero_add] at h hb hn
  simp only [Nat.zero_add, List.nil_append] at h ⊢
  rw [if_pos ⟨by simpa using hb, hn⟩]
  refine h _ (.inr ⟨st.next, m, rfl, Nat.le_refl _, get_new_same _ _, by simpa using hl⟩) rfl fun i _ hi => get_new_ne _ _ _ (by omega)
 ·subst q1
  have h3 : st.cells ⟨b, 0, none⟩ (n * esz) = some cs := by
   simp only [St.cells, q3]
   rw [if_pos (by show 0 + n * esz ≤ _; omega), List.drop_zero, List.take_of_length_le (by omega)]
  simp only [q3, h3, e0, if_false]
  rw [if_pos ⟨hb, hn⟩, if_pos ⟨trivial, trivial, Nat.zero_le _⟩]
  refine h _ (.inr ⟨st.next, n + m, rfl, Nat.le_refl _, ?_, ?_⟩) rfl fun i hi hlt => ?_
  ·exact get_new_same (st.put b none) _
  ·rw [List.length_append, q4, hl, Nat.add_mul]
  ·show ((st.put b none).new _).get i = _
   rw [get_new_ne _ _ _ (by show st.next ≠ i; omega), get_put_ne _ _ _ _ (fun e => hi (by rw [← e]; rfl))]
/-- nothing is laid on -/
theorem append_none {esz bytes n : Nat} {cs : List Value} (hv : GroK esz st v cs n) {W : Value → St → Prop} (h : W v st) : wopK (.append esz bytes) [v, .slice none 0 0] st W := by
 have s1 : srcLen (.slice none 0 0) = some 0 := rfl
 have s2 : st.srcCells esz (.slice none 0 0) = some [] := by simp [St.srcCells]
 simp only [wopK, wop, appendV, s1, s2]
 rcases hv with ⟨q1, _⟩ | ⟨b, cap, q1, _⟩
 ·subst q1; simpa using h
 ·subst q1; simpa using h
end
attribute [local irreducible] callO wopK ropK popK opK grpsE listE sx Runs

section
variable {st : St} {K : Value → St → Prop} {v : Value}

theorem kFindA (n : Nat) {lo : Nat} {l : List IM} (s : ByteArray) (hs : s.size ≤ 90000) (hp : asciiB s = true) (hR : ItR lo st v l) (hl : l.length < 90000) (hN : NmOk l) (h : ∀ st', Frm st st' → K (.int .i64 (knownL (lowerV s) l 0)) st') :
  callK (callO T0 orc fns 100000 (n + 5)) 53 [v, .string s] st K := by
 refine fn_runs (fn := g53) ?_ ?_ ?_
 ·rfl
 ·rfl
 unfold g53
 have F1 := Frm.new st (.row [.string s] 0 false)
 have hbx : (st.new (.row [.string s] 0 false)).get st.next = some (.row [.string s] 0 false) := get_new_same _ _
 have hn1 : (st.new (.row [.string s] 0 false)).next = st.next + 1 := rfl
 simp (disch := omega) only [↓sxA, ↓wk_store, sxB, sxP, simprocAttr, hbx]
 generalize st.new (.row [.string s] 0 false) = s1 at F1 hbx hn1
 refine loop_rule [0, 3, 7, 8] (fun vs s' => s' = s1 ∧ ∃ j : Nat, vs = [v, .pointer (some ⟨st.next, 0, none⟩), .int .i64 (s.size : Nat), .int .i64 j] ∧ j ≤ s.size) (fun vs _ => match lget vs 3 with
   | .int _ k => ((s.size : Int) - k).toNat
   | _ => 0) ?_ ?_ ?_
 ·rfl
 ·refine ⟨_, rfl, ⟨rfl, 0, rfl, Nat.zero_le _⟩, ?_⟩
  show ((s.size : Int) - 0).toNat < 100000
  omega
 ·rintro vs s' ⟨rfl, j, rfl, j1⟩
  show sx _ _ _ _ _ [(0, _), (3, _), (7, _), (8, _)] _ _ _ _
  by_cases hj : j < s.size
  ·obtain ⟨c, hc, hg, hb'⟩ := byte_at s j hj
   have hcp := ascii_at hp j c hc
   have hc128 : ¬ ((128 : Int) ≤ (c.toNat : Int)) := by omega
   simp (disch := omega) only [hbx, q_indexStr, Int.toNat_natCast, hg, ↓sxA, ↓wk_store, sxB, sxP, simprocAttr]
   refine iteI (fun c1 => absurd c1 hc128) (fun _ => ?_)
   refine ⟨_, rfl, ⟨j + 1, ?_, hj⟩, ?_⟩
   ·simp
   ·show ((s.size : Int) - ((j : Int) + 1)).toNat < ((s.size : Int) - j).toNat
    omega
  ·simp (disch := omega) only [hbx, ↓sxA, ↓wk_store, sxB, sxP, simprocAttr]
   refine kLower (n + 4) s (by omega) hp ?_
   have F2 : Frm st (s'.put st.next (some (.row [.string (lowerV s)] 0 false))) := F1.put _ (Nat.le_refl _) _
   simp (disch := omega) only [hbx, ↓sxA, ↓wk_store, sxB, sxP, simprocAttr]
   show callK _ _ [v, .func (.func 92) #[] #[.pointer (some ⟨st.next, 0, none⟩)]] _ _
   refine kFindItems n (hR.keep F2.nx fun i _ hi => F2.old i hi) (get_put_same _ _ _) (by show st.next < s'.next; omega) hl hN fun s3 F3 => ?_
   simp (disch := omega) only [↓sxA, ↓wk_store, sxB, sxP, simprocAttr]
   exact h _ (F2.trans F3)

end
end Go.Proofs.YtdmemibnphcedaaGreatDoor
