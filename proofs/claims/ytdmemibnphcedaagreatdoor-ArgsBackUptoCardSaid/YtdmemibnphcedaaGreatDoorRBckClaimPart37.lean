/-
  The program's Format.
-/
import Derived.Test.YtdmemibnphcedaaGreatDoorRBckClaimPart35
import Derived.Test.YtdmemibnphcedaaGreatDoorRBckClaimPart36
set_option linter.unusedSimpArgs false
set_option linter.unusedVariables false
set_option maxRecDepth 10000
set_option linter.unusedSectionVars false
namespace Go.Proofs.YtdmemibnphcedaaGreatDoor
open Go.Am

theorem src_row {st : St} {b g n : Nat} {ro : Bool} {new : List Value} (hb : st.get b = some (.row new g ro)) (hn : new.length = n) (h0 : 0 < n) : st.srcCells 1 (.slice (some ⟨b, 0, none⟩) n n) = some new := by
 simp only [St.srcCells, St.cells, hb]
 rw [if_neg (by omega), if_pos (by show 0 + n * 1 ≤ _; omega), List.drop_zero, List.take_of_length_le (by omega)]

/-- what lies on the heap between two items -/
structure FI (s0 : St) (l : List IM) (ns : List ByteArray) (cs : List Cl) (j : Nat) (ov lav sv : Value) (s : St) : Prop where
 go : GroK 1 s ov ((accL l ns cs j).out.map Value.string) (accL l ns cs j).out.length
 z0 : (accL l ns cs j).out = [] → ov = .slice none 0 0
 o1 : ow ov = 0 ∨ s0.next + 1 ≤ ow ov
 o2 : ow ov ≤ s.next
 la : ((accL l ns cs j).last = [] ∧ lav = .slice none 0 0) ∨ ∃ b p q, (accL l ns cs j).last = [p, q] ∧ lav = .slice (some ⟨b, 0, none⟩) 2 2 ∧ s.get b = some (.row [.string p, .string q] 0 false) ∧ s0.next ≤ b ∧ b + 1 ≠ ow ov ∧ b < s.next
 se : Cel s sv ((accL l ns cs j).several.map Value.string)
 s1 : ow sv ≤ s0.next
 al : ∀ i, i < j → alongA (itAt l i) (ns.getD i .empty) (clAt cs i) = true
 fr : Frm s0 s
 le : (accL l ns cs j).out.length ≤ 2 * j ∧ ∀ x ∈ (accL l ns cs j).out, x.size ≤ 20010
 ls : ∀ x ∈ (accL l ns cs j).last, x.size ≤ 20010
 sl : (accL l ns cs j).several.length ≤ 5000 ∧ ∀ v ∈ (accL l ns cs j).several, v.size ≤ 10000 ∧ okT v = true
 nl : (accL l ns cs j).name.size ≤ 10000

theorem FI.keep {s0 s s' : St} {l : List IM} {ns : List ByteArray} {cs : List Cl} {j : Nat} {ov lav sv : Value} (h : FI s0 l ns cs j ov lav sv s) (F : Frm s s') : FI s0 l ns cs j ov lav sv s' where
 go := h.go.keep fun i hi => F.old i (by have := h.o2; omega)
 z0 := h.z0
 o1 := h.o1
 o2 := Nat.le_trans h.o2 F.nx
 la := by
  rcases h.la with k | ⟨b, p, q, k1, k2, k3, k4, k5, k6⟩
  ·exact .inl k
  ·exact .inr ⟨b, p, q, k1, k2, (F.old b k6).trans k3, k4, k5, Nat.lt_of_lt_of_le k6 F.nx⟩
 se := h.se.keep fun i hi => F.old i (by have := h.s1; have := h.fr.nx; omega)
 s1 := h.s1
 al := h.al
 fr := h.fr.trans F
 le := h.le
 ls := h.ls
 sl := h.sl
 nl := h.nl

section
variable {s0 s s' : St} {l : List IM} {ns : List ByteArray} {cs : List Cl} {j : Nat} {ov lav sv : Value}
theorem FI.same (h : FI s0 l ns cs j ov lav sv s) {w : Bool} (e : accL l ns cs (j + 1) = { accL l ns cs j with whole := w }) (al : ∀ i, i < j + 1 → alongA (itAt l i) (ns.getD i .empty) (clAt cs i) = true) : FI s0 l ns cs (j + 1) ov lav sv s where
 go := by rw [e]; exact h.go
 z0 := by rw [e]; exact h.z0
 o1 := h.o1
 o2 := h.o2
 la := by rw [e]; exact h.la
 se := by rw [e]; exact h.se
 s1 := h.s1
 al := al
 fr := h.fr
 le := by rw [e]; exact ⟨by have := h.le.1; show (accL l ns cs j).out.length ≤ _; omega, h.le.2⟩
 ls := by rw [e]; exact h.ls
 sl := by rw [e]; exact h.sl
 nl := by rw [e]; exact h.nl
theorem FI.sev (h : FI s0 l ns cs j ov lav sv s) {w : Bool} {vals : List ByteArray} {nm : ByteArray} {vv : Value} (e : accL l ns cs (j + 1) = { accL l ns cs j with whole := w, several := vals, name := nm }) (al : ∀ i, i < j + 1 → alongA (itAt l i) (ns.getD i .empty) (clAt cs i) = true)
  (hv : Cel s vv (vals.map Value.string)) (hvo : ow vv ≤ s0.next) (hl : vals.length ≤ 5000 ∧ ∀ v ∈ vals, v.size ≤ 10000 ∧ okT v = true) (hn : nm.size ≤ 10000) : FI s0 l ns cs (j + 1) ov lav vv s where
 go := by rw [e]; exact h.go
 z0 := by rw [e]; exact h.z0
 o1 := h.o1
 o2 := h.o2
 la := by rw [e]; exact h.la
 se := by rw [e]; exact hv
 s1 := hvo
 al := al
 fr := h.fr
 le := by rw [e]; exact ⟨by have := h.le.1; show (accL l ns cs j).out.length ≤ _; omega, h.le.2⟩
 ls := by rw [e]; exact h.ls
 sl := by rw [e]; exact hl
 nl := by rw [e]; exact hn
theorem FI.lst (h : FI s0 l ns cs j ov lav sv s) {w : Bool} {p q : ByteArray} (e : accL l ns cs (j + 1) = { accL l ns cs j with whole := w, last := [p, q] }) (al : ∀ i, i < j + 1 → alongA (itAt l i) (ns.getD i .empty) (clAt cs i) = true) (hp : p.size ≤ 20010) (hq : q.size ≤ 20010) :
  FI s0 l ns cs (j + 1) ov (.slice (some ⟨s.next, 0, none⟩) 2 2) sv (s.new (.row [.string p, .string q] 0 false)) where
 go := by rw [e]; exact (h.keep (Frm.new _ _)).go
 z0 := by rw [e]; exact h.z0
 o1 := h.o1
 o2 := Nat.le_succ_of_le h.o2
 la := by rw [e]; exact .inr ⟨s.next, p, q, rfl, rfl, get_new_same _ _, h.fr.nx, by have := h.o2; omega, Nat.lt_succ_self _⟩
 se := by rw [e]; exact (h.keep (Frm.new _ _)).se
 s1 := h.s1
 al := al
 fr := h.fr.trans (Frm.new _ _)
 le := by rw [e]; exact ⟨by have := h.le.1; show (accL l ns cs j).out.length ≤ _; omega, h.le.2⟩
 ls := by
  rw [e]
  intro x hx
  rcases List.mem_cons.1 hx with rfl | hx
  ·exact hp
  ·rcases List.mem_cons.1 hx with rfl | hx
   ·exact hq
   ·cases hx
 sl := by rw [e]; exact h.sl
 nl := by rw [e]; exact h.nl
theorem FI.outs (h : FI s0 l ns cs j ov lav sv s) {w : Bool} {xs : List ByteArray} (e : accL l ns cs (j + 1) = { accL l ns cs j with whole := w, out := (accL l ns cs j).out ++ xs }) (al : ∀ i, i < j + 1 → alongA (itAt l i) (ns.getD i .empty) (clAt cs i) = true) (hx : xs.length ≤ 2) (hx0 : xs ≠ []) (hxs : ∀ x ∈ xs, x.size ≤ 20010)
  {ov' : Value} {cells : List Value} {m : Nat} (hm : m = (accL l ns cs j).out.length + xs.length) (hcl : cells = (accL l ns cs j).out.map Value.string ++ xs.map Value.string) (g : GroK 1 s' ov' cells m) (o1 : s.next < ow ov') (o2 : ow ov' ≤ s'.next) (hn : s.next ≤ s'.next) (fr : ∀ i, i + 1 ≠ ow ov → i < s.next → s'.get i = s.get i) :
  FI s0 l ns cs (j + 1) ov' lav sv s' where
 go := by
  rw [e]
  subst hm hcl
  show GroK 1 s' ov' (((accL l ns cs j).out ++ xs).map Value.string) ((accL l ns cs j).out ++ xs).length
  rw [List.map_append, List.length_append]
  exact g
 z0 := by
  rw [e]
  intro hh
  exact (hx0 (List.append_eq_nil_iff.1 hh).2).elim
 o1 := .inr (by have := h.fr.nx; omega)
 o2 := o2
 la := by
  rw [e]
  rcases h.la with k | ⟨b, p, q, k1, k2, k3, k4, k5, k6⟩
  ·exact .inl k
  ·exact .inr ⟨b, p, q, k1, k2, (fr b k5 k6).trans k3, k4, by omega, by omega⟩
 se := by
  rw [e]
  exact h.se.keep fun i hi => fr i (by have := h.o1; have := h.s1; have := h.o2; have := h.fr.nx; omega) (by have := h.s1; have := h.fr.nx; omega)
 s1 := h.s1
 al := al
 fr := ⟨Nat.le_trans h.fr.nx hn, fun i hi => (fr i (by have := h.o1; omega) (by have := h.fr.nx; omega)).trans (h.fr.old i hi)⟩
 le := by
  rw [e]
  refine ⟨by have := h.le.1; show ((accL l ns cs j).out ++ xs).length ≤ _; rw [List.length_append]; omega, fun x hx' => ?_⟩
  rcases List.mem_append.1 hx' with q | q
  ·exact h.le.2 x q
  ·exact hxs x q
 ls := by rw [e]; exact h.ls
 sl := by rw [e]; exact h.sl
 nl := by rw [e]; exact h.nl
end

theorem join_small {xs : List ByteArray} (h : ∀ x ∈ xs, x.size ≤ 20010) (hl : xs.length ≤ 7000) : (Lib.join (xs.map (·.data.toList)) [32]).length ≤ 140737488355328 := by
 have h1 := join_len 32 (xs.map (·.data.toList))
 have h2 : ∀ ys : List ByteArray, (∀ x ∈ ys, x.size ≤ 20010) → ((ys.map (·.data.toList)).map fun p => p.length + 1).sum ≤ ys.length * 20011 := fun ys => by
  induction ys with
  | nil => intro _; simp
  | cons x r ih =>
   intro hh
   have i1 := ih fun y hy => hh y (by simp [hy])
   have i2 := hh x (by simp)
   rw [size_list] at i2
   simp only [List.map_cons, List.sum_cons, List.length_cons, Nat.add_mul] at i1 ⊢
   omega
 have h3 := h2 xs h
 omega
/-- what lies on the heap behind the items -/
structure TI (s0 : St) (a : Acc) (lav : Value) (X : List ByteArray) (ov : Value) (s : St) : Prop where
 go : GroK 1 s ov (X.map Value.string) X.length
 z0 : X = [] → ov = .slice none 0 0
 o1 : ow ov = 0 ∨ s0.next + 1 ≤ ow ov
 o2 : ow ov ≤ s.next
 la : (a.last = [] ∧ lav = .slice none 0 0) ∨ ∃ b p q, a.last = [p, q] ∧ lav = .slice (some ⟨b, 0, none⟩) 2 2 ∧ s.get b = some (.row [.string p, .string q] 0 false) ∧ s0.next ≤ b ∧ b + 1 ≠ ow ov ∧ b < s.next
 fr : Frm s0 s
 le : ∀ x ∈ X, x.size ≤ 20010
theorem FI.ti {s0 s : St} {l : List IM} {ns : List ByteArray} {cs : List Cl} {j : Nat} {ov lav sv : Value} (h : FI s0 l ns cs j ov lav sv s) : TI s0 (accL l ns cs j) lav (accL l ns cs j).out ov s := ⟨h.go, h.z0, h.o1, h.o2, h.la, h.fr, h.le.2⟩
section
variable {s0 s s' : St} {a : Acc} {lav ov : Value} {X : List ByteArray}
theorem TI.keep (h : TI s0 a lav X ov s) (F : Frm s s') : TI s0 a lav X ov s' where
 go := h.go.keep fun i hi => F.old i (by have := h.o2; omega)
 z0 := h.z0
 o1 := h.o1
 o2 := Nat.le_trans h.o2 F.nx
 la := by
  rcases h.la with k | ⟨b, p, q, k1, k2, k3, k4, k5, k6⟩
  ·exact .inl k
  ·exact .inr ⟨b, p, q, k1, k2, (F.old b k6).trans k3, k4, k5, Nat.lt_of_lt_of_le k6 F.nx⟩
 fr := h.fr.trans F
 le := h.le
theorem TI.push (h : TI s0 a lav X ov s) {xs : List ByteArray} (hx0 : xs ≠ []) (hxs : ∀ x ∈ xs, x.size ≤ 20010)
  {ov' : Value} {cells : List Value} {m : Nat} (hm : m = X.length + xs.length) (hcl : cells = X.map Value.string ++ xs.map Value.string) (g : GroK 1 s' ov' cells m) (o1 : s.next < ow ov') (o2 : ow ov' ≤ s'.next) (hn : s.next ≤ s'.next) (fr : ∀ i, i + 1 ≠ ow ov → i < s.next → s'.get i = s.get i) :
  TI s0 a lav (X ++ xs) ov' s' where
 go := by
  subst hm hcl
  rw [List.map_append, List.length_append]
  exact g
 z0 := fun hh => (hx0 (List.append_eq_nil_iff.1 hh).2).elim
 o1 := .inr (by have := h.fr.nx; omega)
 o2 := o2
 la := by
  rcases h.la with k | ⟨b, p, q, k1, k2, k3, k4, k5, k6⟩
  ·exact .inl k
  ·exact .inr ⟨b, p, q, k1, k2, (fr b k5 k6).trans k3, k4, by omega, by omega⟩
 fr := ⟨Nat.le_trans h.fr.nx hn, fun i hi => (fr i (by have := h.o1; omega) (by have := h.fr.nx; omega)).trans (h.fr.old i hi)⟩
 le := fun x hx' => by
  rcases List.mem_append.1 hx' with q | q
  ·exact h.le x q
  ·exact hxs x q
end

theorem quoteL_len2 {s : ByteArray} (h : okT s = true) : (quoteL s.data.toList).length ≤ 2 * s.data.toList.length + 2 := by
 have := escL_len s.data.toList
 have := nesc_le s.data.toList
 rw [quoteL_ok (show s.data.toList.all okB = true from h)]
 split
 ·simp only [List.length_cons, List.length_append, List.length_nil]; omega
 ·omega
theorem along_ok {x : IM} {nm : ByteArray} {c : Cl} (h : alongA x nm c = true) : ∀ v ∈ c.vals, okT v = true := fun v hv => by
 unfold alongA at h
 simp only [Bool.and_eq_true, List.all_eq_true] at h
 have := h.1.2 v hv
 unfold valOk at this
 rw [Bool.and_eq_true] at this
 exact this.1
theorem along_set {x : IM} {nm : ByteArray} {c : Cl} (h : alongA x nm c = true) (hs : x.mks.s = false) : c.set = !c.vals.isEmpty := by
 unfold alongA at h
 rw [hs] at h
 simp only [Bool.and_eq_true, Bool.false_eq_true, if_false] at h
 exact eq_of_beq h.2.1.1
/-- the kinds of items -/
theorem mk_kinds {m : Mk} (h : m.fit = true) : (m.s = true ∧ m.k = false ∧ m.m = false ∧ m.f = false) ∨ (m.s = false ∧ m.k = true ∧ m.m = false ∧ m.f = false) ∨ (m.s = false ∧ m.k = false ∧ m.m = true ∧ m.f = false) ∨ (m.s = false ∧ m.k = false ∧ m.m = false ∧ m.f = true) ∨ (m.s = false ∧ m.k = false ∧ m.m = false ∧ m.f = false) := by
 obtain ⟨a, k, s, n, m, f⟩ := m
 revert h
 cases a <;> cases k <;> cases s <;> cases n <;> cases m <;> cases f <;> simp [Mk.fit]

attribute [local irreducible] callO wopK ropK popK opK grpsE listE sx Runs

/-- the bounds, with the names' -/
def SmallN (ns : List ByteArray) (cs : List Cl) : Prop := Small cs ∧ ∀ j, (ns.getD j .empty).size ≤ 10000

section
variable {st : St} {K : Value → St → Prop}

set_option maxHeartbeats 16000000 in
theorem kFormat (n : Nat) (t : ByteArray) (ht : t.size < 80000) {av : Value} {ns : List ByteArray} {cs : List Cl} (hA : AgC st av ns cs) (hsm : SmallN ns cs) (h0 : 2 < st.next) (hm : hasMax st = true) (he : hasErr st = true)
    (h : ∀ v e st', FmtO t ns cs v e → Frm st st' → K (.tuple #[.string v, .int .i64 e]) st') :
    callK (callO T0 orc fns 100000 (n + 12)) 29 [.string t, av] st K := by
  refine fn_runs (fn := g29) ?_ ?_ ?_
  · rfl
  · rfl
  unfold g29
  simp (disch := omega) only [↓sxA, ↓wk_store, sxB, sxP, simprocAttr]
  refine kTemplate _ t ht (by omega) hm fun l e lv s0 hT hR F0 => ?_
  obtain ⟨hl20, hle, hbd⟩ := tm_bounds hT
  by_cases he0 : e = 0
  case neg =>
    have he' : (e = 0) = False := eq_false he0
    simp (disch := omega) only [↓sxA, ↓wk_store, sxB, sxP, simprocAttr, he']
    exact h _ _ _ ⟨l, e, hT, .inl ⟨he0, rfl, rfl⟩⟩ F0
  subst he0
  have la := hR.len
  have lc := hA.1
  by_cases hlen : cs.length = l.length
  case neg =>
    simp (disch := omega) only [↓sxA, ↓wk_store, sxB, sxP, simprocAttr, ↓la, ↓lc]
    exact h _ _ _ ⟨l, 0, hT, .inr (.inl ⟨rfl, hlen, rfl, rfl⟩)⟩ F0
  simp (disch := omega) only [↓sxA, ↓wk_store, sxB, sxP, simprocAttr, ↓la, ↓lc]
  refine loop_rule [1, 6, 8, 9, 10, 11, 12, 32, 33, 34] (fun vs s => ∃ (j : Nat) (ov lav sv : Value), vs = [av, lv, ov, lav, .bool (accL l ns cs j).whole, sv, .string (accL l ns cs j).name, lv, .int .i64 (l.length : Nat), .int .i64 (j : Nat)] ∧ j ≤ l.length ∧ FI s0 l ns cs j ov lav sv s) (fun vs _ => match lget vs 9 with
      | .int _ k => ((l.length : Int) - k).toNat
      | _ => 0) ?_ ?_ ?_
  · rfl
  · refine ⟨_, rfl, ⟨0, _, _, _, rfl, Nat.zero_le _, ⟨GroK.nil _ _, fun _ => rfl, .inl rfl, Nat.zero_le _, .inl ⟨rfl, rfl⟩, .inl ⟨rfl, rfl⟩, Nat.zero_le _, fun i hi => by omega, Frm.refl _, ⟨Nat.zero_le _, fun x hx => by cases hx⟩, fun x hx => (by cases hx), ⟨Nat.zero_le _, fun x hx => by cases hx⟩, Nat.zero_le _⟩⟩, ?_⟩
    show ((l.length : Int) - 0).toNat < 100000
    omega
  · rintro vs s ⟨j, ov, lav, sv, rfl, hj, hI⟩
    show sx _ _ _ _ _ [(1, _), (6, _), (8, _), (9, _), (10, _), (11, _), (12, _), (32, _), (33, _), (34, _)] _ _ _ _
    have F := F0.trans hI.fr
    have hIf := hI.fr.nx
    by_cases hjl : j < l.length
    · have hmeas : ((l.length : Int) - ((j : Int) + 1)).toNat < ((l.length : Int) - (j : Int)).toNat := by omega
      have hx : l[j] ∈ l := List.getElem_mem hjl
      obtain ⟨d1, d2, d3⟩ := hbd _ hx
      have hitA : itAt l j = l[j] := by simp [itAt, List.getD_eq_getElem?_getD, List.getElem?_eq_getElem hjl]
      have hgood : l[j].mks.fit = true := by
        have := tm_fit hT j
        rw [show mkAt l j = (itAt l j).mks from rfl, hitA] at this
        exact this
      obtain ⟨b1, nv, a1, a2, a3, a4, a5, a6, a7⟩ := (hR.keep (st' := s) hI.fr.nx fun i _ hi => hI.fr.old i hi).at hjl
      obtain ⟨b2, vv, c1, c2, c3, c4⟩ := hA.2 j (by omega)
      obtain ⟨c5, _, _, _, _⟩ := c4 s F
      have hacc : accL l ns cs (j + 1) = accS (itAt l j).mks (ns.getD j .empty) (clAt cs j) (accL l ns cs j) := rfl
      have hnsz := hsm.2 j
      obtain ⟨hvl, hvs⟩ := hsm.1.2 j
      have hcv : ∀ s', Frm st s' → Cel s' vv ((clAt cs j).vals.map Value.string) := fun s' F' => (c4 s' F').2.2.2.2
      rw [hitA] at hacc
      generalize hnm : ns.getD j .empty = nm at hacc hnsz c5
      generalize hcl : clAt cs j = c at hacc hvl hvs c5 hcv
      obtain ⟨s1, st7, hb7, n7, F7⟩ := itBox s l[j].mks a5
      obtain ⟨s2, st3, hb3, n3, F3⟩ := wdBoxA s1 (.string nm) vv (.bool c.set) rfl c2 rfl
      have c5' := (c4 s1 (F.trans F7)).1
      rw [hnm, hcl] at c5'
      have hb7' := (F3.old s.next (by omega)).trans hb7
      have all7 := rk_loadAll (k := 7) hb7' rfl (by decide)
      have all3 := rk_loadAll (k := 3) hb3 rfl (by decide)
      simp (disch := omega) only [↓sxA, ↓wk_store, sxB, sxP, simprocAttr, ↓a1, ↓a2, ↓st7, ↓c1, ↓c5', ↓st3, ↓all7, ↓all3]
      have F12 := F7.trans F3
      have nF := F12.nx
      refine kRight (n + 3) (x := l[j]) (c := c) nm (a4.keep fun i hi => F12.old i (by omega)) a5 (by omega) d1 (by omega) (hcv s2 (F.trans F12)) c2 (by have := F.nx; omega) (by omega) (fun y hy => by have := hvs y hy; omega) (by have := F.nx; omega) ((F.trans F12).err h0 he) ((F.trans F12).max (by omega) hm) fun s3 F4 => ?_
      have Fs := F12.trans F4
      have nF4 := F4.nx
      have hIs := hI.keep Fs
      have hb7s := (F4.old s.next (by omega)).trans hb7'
      have hb3s := (F4.old s1.next (by omega)).trans hb3
      have hcs := hcv s3 (F.trans Fs)
      cases hal : alongA l[j] nm c with
      | false =>
        simp (disch := omega) only [↓sxA, ↓wk_store, sxB, sxP, simprocAttr]
        refine h _ _ _ ⟨l, 0, hT, .inr (.inr ⟨rfl, hlen, ?_⟩)⟩ (F.trans Fs)
        have : fmtA l ns cs = none := by
          unfold fmtA
          rw [if_neg (fun hh => by
            have := hh j hjl
            rw [hitA, hnm, hcl, hal] at this
            cases this)]
        rw [this]
        rfl
      | true =>
        have hok := along_ok hal
        have hset := along_set hal
        have hals : ∀ i, i < j + 1 → alongA (itAt l i) (ns.getD i .empty) (clAt cs i) = true := fun i hi => by
          by_cases e : i = j
          · rw [e, hitA, hnm, hcl]; exact hal
          · exact hI.al i (by omega)
        generalize l[j] = x at *
        obtain ⟨names, ⟨ma, mk', ms, mn, mm, mf⟩⟩ := x
        obtain ⟨vals, set, nmd⟩ := c
        have hkinds := mk_kinds hgood
        simp only at hkinds hset hok hvl hvs hcs hb7s hb3s
        generalize hwv : (accL l ns cs j).whole = wv
        have b5 : (true == false) = false := rfl
        have all7s := rk_loadAll (k := 7) hb7s rfl (by decide)
        have hq : ∀ y ∈ vals, (bs (quoteL y.data.toList)).size ≤ 20010 := fun y hy => by
          have h1 := quoteL_len2 (hok y hy)
          have h2 := bs_size (quoteL y.data.toList)
          have h3 := hvs y hy
          have h4 := size_list y
          omega
        rcases hkinds with ⟨rfl, rfl, rfl, rfl⟩ | ⟨rfl, rfl, rfl, rfl⟩ | ⟨rfl, rfl, rfl, rfl⟩ | ⟨rfl, rfl, rfl, rfl⟩ | ⟨rfl, rfl, rfl, rfl⟩ <;> cases set <;> cases wv
        all_goals
          simp (disch := omega) only [↓sxA, ↓wk_store, sxB, sxP, simprocAttr, hb7s, hb3s, ↓all7s]
          first
          | (refine kPlain _ (nv := nv) (mk := ⟨ma, _, _, mn, _, _⟩) fun s4 F5 => ?_
             have hb7t := (F5.old s.next (by omega)).trans hb7s
             have hb3t := (F5.old s1.next (by omega)).trans hb3s
             simp (disch := omega) only [↓sxA, ↓wk_store, sxB, sxP, simprocAttr, hb7t, hb3t, show (true || false) = true from rfl, show (false || true) = true from rfl, show (false || false) = false from rfl])
          | (obtain ⟨s4, F5, e5⟩ : ∃ s4, Frm s3 s4 ∧ s3 = s4 := ⟨s3, Frm.refl _, rfl⟩
             have hb7t := (F5.old s.next (by omega)).trans hb7s
             have hb3t := (F5.old s1.next (by omega)).trans hb3s
             rw [e5])
        all_goals
          have hI4 := hIs.keep F5
          have hcs4 : Cel s4 vv (vals.map Value.string) := hcv s4 ((F.trans Fs).trans F5)
        all_goals
          try (refine ⟨_, rfl, ⟨j + 1, ov, lav, sv, ?_, hjl, hI4.same hacc hals⟩, hmeas⟩
               rw [hacc]
               simp [accS, wholeA, hwv]
               done)
        · have hle4 := hI4.le.1
          refine appendM (n := (accL l ns cs j).out.length) (m := 1) (new := [.string nm]) (hI4.go.keep fun i hi => get_new_ne _ _ _ (by have := hI4.o2; omega)) rfl (src_row (get_new_same _ _) rfl (by simp)) rfl (by decide) (by decide) rfl (by omega) (by omega) fun s6 g1 g2 g3 => ?_
          have e6 : s6.next = s4.next + 2 := g2
          simp (disch := omega) only [↓sxA, ↓wk_store, sxB, sxP, simprocAttr]
          refine ⟨_, rfl, ⟨j + 1, _, lav, sv, ?_, hjl, hI4.outs (xs := [nm]) hacc hals (by simp) (by simp) (fun x hx => by simp at hx; subst hx; omega) rfl rfl g1 (by show s4.next < s4.next + 1 + 1; omega) (by show s4.next + 1 + 1 ≤ s6.next; omega) (by omega) fun i h1 h2 => (g3 i h1 (by show i < s4.next + 1; omega)).trans (get_new_ne _ _ _ (by omega))⟩, hmeas⟩
          rw [hacc]
          simp [accS, wholeA, hwv]
        · have hle4 := hI4.le.1
          refine appendM (n := (accL l ns cs j).out.length) (m := 1) (new := [.string nm]) (hI4.go.keep fun i hi => get_new_ne _ _ _ (by have := hI4.o2; omega)) rfl (src_row (get_new_same _ _) rfl (by simp)) rfl (by decide) (by decide) rfl (by omega) (by omega) fun s6 g1 g2 g3 => ?_
          have e6 : s6.next = s4.next + 2 := g2
          simp (disch := omega) only [↓sxA, ↓wk_store, sxB, sxP, simprocAttr]
          refine ⟨_, rfl, ⟨j + 1, _, lav, sv, ?_, hjl, hI4.outs (xs := [nm]) hacc hals (by simp) (by simp) (fun x hx => by simp at hx; subst hx; omega) rfl rfl g1 (by show s4.next < s4.next + 1 + 1; omega) (by show s4.next + 1 + 1 ≤ s6.next; omega) (by omega) fun i h1 h2 => (g3 i h1 (by show i < s4.next + 1; omega)).trans (get_new_ne _ _ _ (by omega))⟩, hmeas⟩
          rw [hacc]
          simp [accS, wholeA, hwv]
        · have hne : vals ≠ [] := by
            rintro rfl
            have := hset rfl
            cases this
          obtain ⟨v0, vr, rfl⟩ := List.exists_cons_of_ne_nil hne
          have ix : ∀ K : Value → Prop, popK (.indexAddr 1) [vv, .int .i64 0] K = K (bptr vv 0) := fun K => by
            rw [idx_cel hcs4 .i64 0 K (by omega) (by simp)]
          have ld : ∀ K : Value → Prop, ropK .load1 [bptr vv 0] s4 K = K (.string v0) := fun K => by
            rw [load_cel hcs4 0 K (by omega) (by simp)]
            rfl
          have hq0 := hq v0 (by simp)
          have hv0 := hvs v0 (by simp)
          simp (disch := omega) only [↓sxA, ↓wk_store, sxB, sxP, simprocAttr, hb7t, hb3t, ↓ix, ↓ld]
          refine kQuote _ v0 (by omega) fun s5 F6 => ?_
          have hb3u := (F6.old s1.next (by have := F5.nx; omega)).trans hb3t
          have hce : cellEq (.string nm) (.string nm) = true := by simp [cellEq]
          have hI5 := hI4.keep F6
          simp (disch := omega) only [↓sxA, ↓wk_store, sxB, sxP, simprocAttr, hb3u, hce]
          have hle5 := hI5.le.1
          refine appendM (n := (accL l ns cs j).out.length) (m := 2) (new := [.string nm, .string (bs (quoteL v0.data.toList))]) (hI5.go.keep fun i hi => get_new_ne _ _ _ (by have := hI5.o2; omega)) rfl (src_row (get_new_same _ _) rfl (by simp)) rfl (by decide) (by decide) rfl (by omega) (by omega) fun s6 g1 g2 g3 => ?_
          have e6 : s6.next = s5.next + 2 := g2
          simp (disch := omega) only [↓sxA, ↓wk_store, sxB, sxP, simprocAttr]
          refine ⟨_, rfl, ⟨j + 1, _, lav, sv, ?_, hjl, hI5.outs (xs := [nm, bs (quoteL v0.data.toList)]) hacc hals (by simp) (by simp) (fun x hx => by simp at hx; rcases hx with rfl | rfl <;> omega) rfl rfl g1 (by show s5.next < s5.next + 1 + 1; omega) (by show s5.next + 1 + 1 ≤ s6.next; omega) (by omega) fun i h1 h2 => (g3 i h1 (by show i < s5.next + 1; omega)).trans (get_new_ne _ _ _ (by omega))⟩, hmeas⟩
          rw [hacc]
          simp [accS, wholeA, hwv]
        · have hne : vals ≠ [] := by
            rintro rfl
            have := hset rfl
            cases this
          obtain ⟨v0, vr, rfl⟩ := List.exists_cons_of_ne_nil hne
          have ix : ∀ K : Value → Prop, popK (.indexAddr 1) [vv, .int .i64 0] K = K (bptr vv 0) := fun K => by
            rw [idx_cel hcs4 .i64 0 K (by omega) (by simp)]
          have ld : ∀ K : Value → Prop, ropK .load1 [bptr vv 0] s4 K = K (.string v0) := fun K => by
            rw [load_cel hcs4 0 K (by omega) (by simp)]
            rfl
          have hq0 := hq v0 (by simp)
          have hv0 := hvs v0 (by simp)
          simp (disch := omega) only [↓sxA, ↓wk_store, sxB, sxP, simprocAttr, hb7t, hb3t, ↓ix, ↓ld]
          refine kQuote _ v0 (by omega) fun s5 F6 => ?_
          have hb3u := (F6.old s1.next (by have := F5.nx; omega)).trans hb3t
          have hce : cellEq (.string nm) (.string nm) = true := by simp [cellEq]
          have hI5 := hI4.keep F6
          simp (disch := omega) only [↓sxA, ↓wk_store, sxB, sxP, simprocAttr, hb3u, hce]
          have hle5 := hI5.le.1
          refine appendM (n := (accL l ns cs j).out.length) (m := 2) (new := [.string nm, .string (bs (quoteL v0.data.toList))]) (hI5.go.keep fun i hi => get_new_ne _ _ _ (by have := hI5.o2; omega)) rfl (src_row (get_new_same _ _) rfl (by simp)) rfl (by decide) (by decide) rfl (by omega) (by omega) fun s6 g1 g2 g3 => ?_
          have e6 : s6.next = s5.next + 2 := g2
          simp (disch := omega) only [↓sxA, ↓wk_store, sxB, sxP, simprocAttr]
          refine ⟨_, rfl, ⟨j + 1, _, lav, sv, ?_, hjl, hI5.outs (xs := [nm, bs (quoteL v0.data.toList)]) hacc hals (by simp) (by simp) (fun x hx => by simp at hx; rcases hx with rfl | rfl <;> omega) rfl rfl g1 (by show s5.next < s5.next + 1 + 1; omega) (by show s5.next + 1 + 1 ≤ s6.next; omega) (by omega) fun i h1 h2 => (g3 i h1 (by show i < s5.next + 1; omega)).trans (get_new_ne _ _ _ (by omega))⟩, hmeas⟩
          rw [hacc]
          simp [accS, wholeA, hwv]
        · refine ⟨_, rfl, ⟨j + 1, ov, lav, vv, ?_, hjl, hI4.sev (nm := nm) hacc hals hcs4 (by have := F0.nx; omega) ⟨hvl, fun y hy => ⟨hvs y hy, hok y hy⟩⟩ hnsz⟩, hmeas⟩
          rw [hacc]
          simp [accS, wholeA, hwv]
        · refine ⟨_, rfl, ⟨j + 1, ov, lav, vv, ?_, hjl, hI4.sev (nm := nm) hacc hals hcs4 (by have := F0.nx; omega) ⟨hvl, fun y hy => ⟨hvs y hy, hok y hy⟩⟩ hnsz⟩, hmeas⟩
          rw [hacc]
          simp [accS, wholeA, hwv]
        · have hne : vals ≠ [] := by
            rintro rfl
            have := hset rfl
            cases this
          obtain ⟨v0, vr, rfl⟩ := List.exists_cons_of_ne_nil hne
          have ix : ∀ K : Value → Prop, popK (.indexAddr 1) [vv, .int .i64 0] K = K (bptr vv 0) := fun K => by
            rw [idx_cel hcs4 .i64 0 K (by omega) (by simp)]
          have ld : ∀ K : Value → Prop, ropK .load1 [bptr vv 0] s4 K = K (.string v0) := fun K => by
            rw [load_cel hcs4 0 K (by omega) (by simp)]
            rfl
          have hv0 := hvs v0 (by simp)
          simp (disch := omega) only [↓sxA, ↓wk_store, sxB, sxP, simprocAttr, hb7t, hb3t, ↓ix, ↓ld]
          refine ⟨_, rfl, ⟨j + 1, ov, _, sv, ?_, hjl, hI4.lst (p := nm) (q := v0) hacc hals (by omega) (by omega)⟩, hmeas⟩
          rw [hacc]
          simp [accS, wholeA, hwv]
        · have hne : vals ≠ [] := by
            rintro rfl
            have := hset rfl
            cases this
          obtain ⟨v0, vr, rfl⟩ := List.exists_cons_of_ne_nil hne
          have ix : ∀ K : Value → Prop, popK (.indexAddr 1) [vv, .int .i64 0] K = K (bptr vv 0) := fun K => by
            rw [idx_cel hcs4 .i64 0 K (by omega) (by simp)]
          have ld : ∀ K : Value → Prop, ropK .load1 [bptr vv 0] s4 K = K (.string v0) := fun K => by
            rw [load_cel hcs4 0 K (by omega) (by simp)]
            rfl
          have hv0 := hvs v0 (by simp)
          simp (disch := omega) only [↓sxA, ↓wk_store, sxB, sxP, simprocAttr, hb7t, hb3t, ↓ix, ↓ld]
          refine ⟨_, rfl, ⟨j + 1, ov, _, sv, ?_, hjl, hI4.lst (p := nm) (q := v0) hacc hals (by omega) (by omega)⟩, hmeas⟩
          rw [hacc]
          simp [accS, wholeA, hwv]
        · have hne : vals ≠ [] := by
            rintro rfl
            have := hset rfl
            cases this
          obtain ⟨v0, vr, rfl⟩ := List.exists_cons_of_ne_nil hne
          have ix : ∀ K : Value → Prop, popK (.indexAddr 1) [vv, .int .i64 0] K = K (bptr vv 0) := fun K => by
            rw [idx_cel hcs4 .i64 0 K (by omega) (by simp)]
          have ld : ∀ K : Value → Prop, ropK .load1 [bptr vv 0] s4 K = K (.string v0) := fun K => by
            rw [load_cel hcs4 0 K (by omega) (by simp)]
            rfl
          have hq0 := hq v0 (by simp)
          have hv0 := hvs v0 (by simp)
          simp (disch := omega) only [↓sxA, ↓wk_store, sxB, sxP, simprocAttr, hb7t, hb3t, ↓ix, ↓ld]
          refine kQuote _ v0 (by omega) fun s5 F6 => ?_
          have hb3u := (F6.old s1.next (by have := F5.nx; omega)).trans hb3t
          have hce : cellEq (.string nm) (.string nm) = true := by simp [cellEq]
          have hI5 := hI4.keep F6
          simp (disch := omega) only [↓sxA, ↓wk_store, sxB, sxP, simprocAttr, hb3u, hce]
          have hle5 := hI5.le.1
          refine appendM (n := (accL l ns cs j).out.length) (m := 2) (new := [.string nm, .string (bs (quoteL v0.data.toList))]) (hI5.go.keep fun i hi => get_new_ne _ _ _ (by have := hI5.o2; omega)) rfl (src_row (get_new_same _ _) rfl (by simp)) rfl (by decide) (by decide) rfl (by omega) (by omega) fun s6 g1 g2 g3 => ?_
          have e6 : s6.next = s5.next + 2 := g2
          simp (disch := omega) only [↓sxA, ↓wk_store, sxB, sxP, simprocAttr]
          refine ⟨_, rfl, ⟨j + 1, _, lav, sv, ?_, hjl, hI5.outs (xs := [nm, bs (quoteL v0.data.toList)]) hacc hals (by simp) (by simp) (fun x hx => by simp at hx; rcases hx with rfl | rfl <;> omega) rfl rfl g1 (by show s5.next < s5.next + 1 + 1; omega) (by show s5.next + 1 + 1 ≤ s6.next; omega) (by omega) fun i h1 h2 => (g3 i h1 (by show i < s5.next + 1; omega)).trans (get_new_ne _ _ _ (by omega))⟩, hmeas⟩
          rw [hacc]
          simp [accS, wholeA, hwv]
        · have hne : vals ≠ [] := by
            rintro rfl
            have := hset rfl
            cases this
          obtain ⟨v0, vr, rfl⟩ := List.exists_cons_of_ne_nil hne
          have ix : ∀ K : Value → Prop, popK (.indexAddr 1) [vv, .int .i64 0] K = K (bptr vv 0) := fun K => by
            rw [idx_cel hcs4 .i64 0 K (by omega) (by simp)]
          have ld : ∀ K : Value → Prop, ropK .load1 [bptr vv 0] s4 K = K (.string v0) := fun K => by
            rw [load_cel hcs4 0 K (by omega) (by simp)]
            rfl
          have hq0 := hq v0 (by simp)
          have hv0 := hvs v0 (by simp)
          simp (disch := omega) only [↓sxA, ↓wk_store, sxB, sxP, simprocAttr, hb7t, hb3t, ↓ix, ↓ld]
          refine kQuote _ v0 (by omega) fun s5 F6 => ?_
          have hb3u := (F6.old s1.next (by have := F5.nx; omega)).trans hb3t
          have hce : cellEq (.string nm) (.string nm) = true := by simp [cellEq]
          have hI5 := hI4.keep F6
          simp (disch := omega) only [↓sxA, ↓wk_store, sxB, sxP, simprocAttr, hb3u, hce]
          have hle5 := hI5.le.1
          refine appendM (n := (accL l ns cs j).out.length) (m := 2) (new := [.string nm, .string (bs (quoteL v0.data.toList))]) (hI5.go.keep fun i hi => get_new_ne _ _ _ (by have := hI5.o2; omega)) rfl (src_row (get_new_same _ _) rfl (by simp)) rfl (by decide) (by decide) rfl (by omega) (by omega) fun s6 g1 g2 g3 => ?_
          have e6 : s6.next = s5.next + 2 := g2
          simp (disch := omega) only [↓sxA, ↓wk_store, sxB, sxP, simprocAttr]
          refine ⟨_, rfl, ⟨j + 1, _, lav, sv, ?_, hjl, hI5.outs (xs := [nm, bs (quoteL v0.data.toList)]) hacc hals (by simp) (by simp) (fun x hx => by simp at hx; rcases hx with rfl | rfl <;> omega) rfl rfl g1 (by show s5.next < s5.next + 1 + 1; omega) (by show s5.next + 1 + 1 ≤ s6.next; omega) (by omega) fun i h1 h2 => (g3 i h1 (by show i < s5.next + 1; omega)).trans (get_new_ne _ _ _ (by omega))⟩, hmeas⟩
          rw [hacc]
          simp [accS, wholeA, hwv]
    · have hje : j = l.length := by omega
      subst hje
      have hall : allAlong l ns cs := fun i hi => hI.al i hi
      have hT0 := hI.ti
      have hse := hI.se
      have hs1 := hI.s1
      have hsl := hI.sl
      have hnl := hI.nl
      have hol := hI.le.1
      have hF : fmtA l ns cs = fmtB l (accL l ns cs l.length) := by unfold fmtA; rw [if_pos hall]
      have hN : NmOk l := fun x hx => by have := (hbd x hx).2.1; omega
      have fin : ∀ v e st', (v, e) = lineE (fmtA l ns cs) → Frm s0 st' → K (.tuple #[.string v, .int .i64 e]) st' := fun v e st' hv hF' => h v e st' ⟨l, 0, hT, .inr (.inr ⟨rfl, hlen, hv⟩)⟩ (F0.trans hF')
      have hls := hI.ls
      generalize accL l ns cs l.length = a at *
      have nsv := len_cel hse
      rw [List.length_map] at nsv
      have sevsz : ∀ v ∈ a.several, (sevT l v).size ≤ 20010 := fun v hv => by
        obtain ⟨k1, k2⟩ := hsl.2 v hv
        have h1 := quoteL_len2 k2
        have h2 := bs_size (quoteL v.data.toList)
        have h3 := size_list v
        have h4 := escL_len v.data.toList
        have h5 := nesc_le v.data.toList
        have h6 := bs_size (34 :: (escL v.data.toList ++ [34]))
        simp only [List.length_cons, List.length_append, List.length_nil] at h6
        unfold sevT
        split <;> omega
      cases hw : a.whole
      case' true =>
        have hB : fmtB l a = some (a.out ++ a.several.map (sevT l) ++ a.last) := by unfold fmtB; rw [if_pos hw]
        rw [hB] at hF
        simp (disch := omega) only [↓sxA, ↓wk_store, sxB, sxP, simprocAttr, ↓nsv]
        refine loop_rule [6, 8, 9, 108, 109, 110] (fun vs s' => ∃ (k : Nat) (ov' : Value), vs = [lv, ov', lav, sv, .int .i64 (a.several.length : Nat), .int .i64 (k : Nat)] ∧ k ≤ a.several.length ∧ TI s0 a lav (a.out ++ (a.several.take k).map (sevT l)) ov' s' ∧ Cel s' sv (a.several.map Value.string)) (fun vs _ => match lget vs 5 with
            | .int _ k => ((a.several.length : Int) - k).toNat
            | _ => 0) ?_ ?_ ?_
        · rfl
        · refine ⟨_, rfl, ⟨0, ov, rfl, Nat.zero_le _, by simpa using hT0, hse⟩, ?_⟩
          show ((a.several.length : Int) - 0).toNat < 100000
          omega
        rintro vs s5 ⟨k, ov5, rfl, hk, hT5, hse5⟩
        show sx _ _ _ _ _ [(6, _), (8, _), (9, _), (108, _), (109, _), (110, _)] _ _ _ _
        by_cases hkl : k < a.several.length
        · have F5 := hT5.fr
          have nf5 := F5.nx
          have i1 := idx_cel hse5
          have ld1 := load_cel hse5
          rw [List.length_map] at i1 ld1
          have e := getD_str a.several k hkl
          have hmm : a.several.getD k .empty ∈ a.several := by rw [List.getD_eq_getElem?_getD, List.getElem?_eq_getElem hkl, Option.getD_some]; exact List.getElem_mem hkl
          have htk : a.several.take (k + 1) = a.several.take k ++ [a.several.getD k .empty] := by
            rw [List.take_add_one, List.getElem?_eq_getElem hkl, List.getD_eq_getElem?_getD, List.getElem?_eq_getElem hkl]
            rfl
          generalize a.several.getD k .empty = y at e hmm htk
          obtain ⟨y1, y2⟩ := hsl.2 y hmm
          have ys := sevsz y hmm
          have ld2 : ∀ K : Value → Prop, ropK .load1 [bptr sv (k : Int)] s5 K = K (.string y) := fun K => by rw [ld1 k K (by omega) (by omega), Int.toNat_natCast, e]
          have hXl : (a.out ++ (a.several.take k).map (sevT l)).length = a.out.length + k := by simp; omega
          simp (disch := omega) only [↓sxA, ↓wk_store, sxB, sxP, simprocAttr, ↓i1, ↓ld2]
          refine kFindA _ y (by omega) (ok_ascii y2) (hR.keep (st' := s5) nf5 fun i _ hi => F5.old i hi) (by omega) hN fun s6 F6 => ?_
          by_cases hkn : 0 ≤ knownL (lowerV y) l 0
          case' pos =>
            have hst : sevT l y = bs (34 :: (escL y.data.toList ++ [34])) := by unfold sevT; rw [if_pos hkn]
            simp (disch := omega) only [↓sxA, ↓wk_store, sxB, sxP, simprocAttr]
            refine kEscaped _ y (by omega) fun s7 F7 => ?_
          case' neg =>
            have hst : sevT l y = bs (quoteL y.data.toList) := by unfold sevT; rw [if_neg hkn]
            simp (disch := omega) only [↓sxA, ↓wk_store, sxB, sxP, simprocAttr]
            refine kQuote _ y (by omega) fun s7 F7 => ?_
          all_goals
            rw [← hst]
            have hT7 := hT5.keep (F6.trans F7)
            have hse7 : Cel s7 sv (a.several.map Value.string) := hse5.keep fun i hi => (F6.trans F7).old i (by omega)
            have nf7 := hT7.fr.nx
            simp (disch := omega) only [↓sxA, ↓wk_store, sxB, sxP, simprocAttr]
            refine appendM (n := (a.out ++ (a.several.take k).map (sevT l)).length) (m := 1) (new := [.string (sevT l y)]) (hT7.go.keep fun i hi => get_new_ne _ _ _ (by have := hT7.o2; omega)) rfl (src_row (get_new_same _ _) rfl (by simp)) rfl (by decide) (by decide) rfl (by omega) (by omega) fun s8 g1 g2 g3 => ?_
            have e8 : s8.next = s7.next + 2 := g2
            have fr8 : ∀ i, i + 1 ≠ ow ov5 → i < s7.next → s8.get i = s7.get i := fun i h1 h2 => (g3 i h1 (by show i < s7.next + 1; omega)).trans (get_new_ne _ _ _ (by omega))
            simp (disch := omega) only [↓sxA, ↓wk_store, sxB, sxP, simprocAttr]
            refine ⟨_, rfl, ⟨k + 1, _, rfl, hkl, ?_, hse7.keep fun i hi => fr8 i (by have := hT7.o1; omega) (by omega)⟩, ?_⟩
            · have := hT7.push (xs := [sevT l y]) (by simp) (fun x hx => by simp at hx; subst hx; exact ys) rfl rfl g1 (by show s7.next < s7.next + 1 + 1; omega) (by show s7.next + 1 + 1 ≤ s8.next; omega) (by omega) fr8
              rw [htk, List.map_append, ← List.append_assoc]
              exact this
            · show ((a.several.length : Int) - ((k : Int) + 1)).toNat < ((a.several.length : Int) - (k : Int)).toNat
              omega
        · have hke : k = a.several.length := by omega
          rw [hke, List.take_length] at hT5
          simp (disch := omega) only [↓sxA, ↓wk_store, sxB, sxP, simprocAttr]
          have hXX := hT5.le
          have hX9 : ((a.out ++ a.several.map (sevT l))).length ≤ 6000 := by (try simp only [List.length_append, List.length_map, List.length_cons, List.length_nil]); omega
          have hla := hT5.la
          rcases hla with ⟨e1, e2⟩ | ⟨b, p, q, e1, e2, e3, e4, e5, e6⟩
          case' inl =>
            subst e2
            refine append_none hT5.go ?_
            have hC : Cel s5 ov5 (((a.out ++ a.several.map (sevT l)) ++ a.last).map Value.string) := by rw [e1, List.append_nil]; exact hT5.go.cel.1
            have hZ : (a.out ++ a.several.map (sevT l)) ++ a.last = [] → ov5 = .slice none 0 0 := by rw [e1, List.append_nil]; exact hT5.z0
            have hl2 : a.last.length ≤ 2 := by rw [e1]; simp
            have F9 : Frm s0 s5 := hT5.fr
          case' inr =>
            subst e2
            refine appendM (n := ((a.out ++ a.several.map (sevT l))).length) (m := 2) (new := [.string p, .string q]) hT5.go rfl (src_row e3 rfl (by simp)) rfl (by decide) (by decide) rfl (by omega) (by omega) fun s9 g1 g2 g3 => ?_
            have hC : Cel s9 (.slice (some ⟨s5.next, 0, none⟩) (((a.out ++ a.several.map (sevT l))).length + 2) (((a.out ++ a.several.map (sevT l))).length + 2)) (((a.out ++ a.several.map (sevT l)) ++ a.last).map Value.string) := by rw [e1, List.map_append]; exact g1.cel.1
            have hZ : (a.out ++ a.several.map (sevT l)) ++ a.last = [] → Value.slice (some ⟨s5.next, 0, none⟩) (((a.out ++ a.several.map (sevT l))).length + 2) (((a.out ++ a.several.map (sevT l))).length + 2) = .slice none 0 0 := by rw [e1]; intro hh; simp at hh
            have hl2 : a.last.length ≤ 2 := by rw [e1]; simp
            have F9 : Frm s0 s9 := ⟨by have := hT5.fr.nx; omega, fun i hi => (g3 i (by have := hT5.o1; omega) (by have := hT5.fr.nx; omega)).trans (hT5.fr.old i hi)⟩
          all_goals
            have hJb := join_small (xs := (a.out ++ a.several.map (sevT l)) ++ a.last) (fun x hx => by
              rcases List.mem_append.1 hx with q | q
              · exact hXX x q
              · exact hls x q) (by rw [List.length_append]; omega)
            simp (disch := omega) only [↓sxA, ↓wk_store, sxB, sxP, simprocAttr]
            refine kJoin _ (xs := (a.out ++ a.several.map (sevT l)) ++ a.last) hC ⟨#[32]⟩ (by rw [List.length_append]; omega) hJb hZ ?_
            have hbz := bs_size (Lib.join (((a.out ++ a.several.map (sevT l)) ++ a.last).map (·.data.toList)) [32])
            rw [show (ByteArray.data ⟨#[32]⟩).toList = [32] from rfl]
            have hfin := fun v e st' hv => fin v e st' hv
            rw [hF] at hfin
            simp only [lineE] at hfin
            by_cases hJ : 1000 < (Lib.join (((a.out ++ a.several.map (sevT l)) ++ a.last).map (·.data.toList)) [32]).length
            · rw [if_pos hJ] at hfin
              generalize Lib.join (((a.out ++ a.several.map (sevT l)) ++ a.last).map (·.data.toList)) [32] = J at *
              simp (disch := omega) only [↓sxA, ↓wk_store, sxB, sxP, simprocAttr]
              exact hfin _ _ _ rfl F9
            · rw [if_neg hJ] at hfin
              generalize Lib.join (((a.out ++ a.several.map (sevT l)) ++ a.last).map (·.data.toList)) [32] = J at *
              simp (disch := omega) only [↓sxA, ↓wk_store, sxB, sxP, simprocAttr]
              exact hfin _ _ _ rfl F9
      case' false =>
        rcases hsv : a.several with _ | ⟨v0, vr⟩
        · have hB : fmtB l a = some (a.out ++ a.last) := by unfold fmtB; rw [if_neg (by rw [hw]; decide), hsv]
          rw [hB] at hF
          have nsv' : ∀ K : Value → Prop, popK .lenSl [sv] K = K (.int .i64 0) := fun K => by rw [nsv, hsv]; rfl
          simp (disch := omega) only [↓sxA, ↓wk_store, sxB, sxP, simprocAttr, ↓nsv']
          have hXX := hT0.le
          have hX9 : a.out.length ≤ 6000 := by (try simp only [List.length_append, List.length_map, List.length_cons, List.length_nil]); omega
          have hla := hT0.la
          rcases hla with ⟨e1, e2⟩ | ⟨b, p, q, e1, e2, e3, e4, e5, e6⟩
          case' inl =>
            subst e2
            refine append_none hT0.go ?_
            have hC : Cel s ov ((a.out ++ a.last).map Value.string) := by rw [e1, List.append_nil]; exact hT0.go.cel.1
            have hZ : a.out ++ a.last = [] → ov = .slice none 0 0 := by rw [e1, List.append_nil]; exact hT0.z0
            have hl2 : a.last.length ≤ 2 := by rw [e1]; simp
            have F9 : Frm s0 s := hT0.fr
          case' inr =>
            subst e2
            refine appendM (n := (a.out).length) (m := 2) (new := [.string p, .string q]) hT0.go rfl (src_row e3 rfl (by simp)) rfl (by decide) (by decide) rfl (by omega) (by omega) fun s9 g1 g2 g3 => ?_
            have hC : Cel s9 (.slice (some ⟨s.next, 0, none⟩) ((a.out).length + 2) ((a.out).length + 2)) ((a.out ++ a.last).map Value.string) := by rw [e1, List.map_append]; exact g1.cel.1
            have hZ : a.out ++ a.last = [] → Value.slice (some ⟨s.next, 0, none⟩) ((a.out).length + 2) ((a.out).length + 2) = .slice none 0 0 := by rw [e1]; intro hh; simp at hh
            have hl2 : a.last.length ≤ 2 := by rw [e1]; simp
            have F9 : Frm s0 s9 := ⟨by have := hT0.fr.nx; omega, fun i hi => (g3 i (by have := hT0.o1; omega) (by have := hT0.fr.nx; omega)).trans (hT0.fr.old i hi)⟩
          all_goals
            have hJb := join_small (xs := a.out ++ a.last) (fun x hx => by
              rcases List.mem_append.1 hx with q | q
              · exact hXX x q
              · exact hls x q) (by rw [List.length_append]; omega)
            simp (disch := omega) only [↓sxA, ↓wk_store, sxB, sxP, simprocAttr]
            refine kJoin _ (xs := a.out ++ a.last) hC ⟨#[32]⟩ (by rw [List.length_append]; omega) hJb hZ ?_
            have hbz := bs_size (Lib.join ((a.out ++ a.last).map (·.data.toList)) [32])
            rw [show (ByteArray.data ⟨#[32]⟩).toList = [32] from rfl]
            have hfin := fun v e st' hv => fin v e st' hv
            rw [hF] at hfin
            simp only [lineE] at hfin
            by_cases hJ : 1000 < (Lib.join ((a.out ++ a.last).map (·.data.toList)) [32]).length
            · rw [if_pos hJ] at hfin
              generalize Lib.join ((a.out ++ a.last).map (·.data.toList)) [32] = J at *
              simp (disch := omega) only [↓sxA, ↓wk_store, sxB, sxP, simprocAttr]
              exact hfin _ _ _ rfl F9
            · rw [if_neg hJ] at hfin
              generalize Lib.join ((a.out ++ a.last).map (·.data.toList)) [32] = J at *
              simp (disch := omega) only [↓sxA, ↓wk_store, sxB, sxP, simprocAttr]
              exact hfin _ _ _ rfl F9
        · have i1 := idx_cel hse
          have ld1 := load_cel hse
          rw [List.length_map] at i1 ld1
          rw [hsv] at nsv i1 ld1
          by_cases hvr : vr = []
          case neg =>
            have hB : fmtB l a = none := by
              unfold fmtB
              rw [if_neg (by rw [hw]; decide), hsv]
              cases vr with
              | nil => exact (hvr rfl).elim
              | cons x y => rfl
            rw [hB] at hF
            have z : (1 : Int) < ((v0 :: vr).length : Nat) := by have := List.length_pos_iff.2 hvr; rw [List.length_cons]; omega
            simp (disch := omega) only [↓sxA, ↓wk_store, sxB, sxP, simprocAttr, ↓nsv]
            refine fin _ _ _ ?_ hI.fr
            rw [hF]
            rfl
          subst hvr
          have hB : fmtB l a = some (a.out ++ [a.name, bs (quoteL v0.data.toList)] ++ a.last) := by unfold fmtB; rw [if_neg (by rw [hw]; decide), hsv]
          rw [hB] at hF
          obtain ⟨y1, y2⟩ := hsl.2 v0 (by rw [hsv]; simp)
          have z1 : ¬ (1 : Int) < (([v0] : List ByteArray).length : Nat) := by simp
          have z2 : ((([v0] : List ByteArray).length : Nat) : Int) = 1 := rfl
          have ld2 : ∀ K : Value → Prop, ropK .load1 [bptr sv 0] s K = K (.string v0) := fun K => by rw [ld1 0 K (by omega) (by simp)]; rfl
          have ix2 : ∀ K : Value → Prop, popK (.indexAddr 1) [sv, .int .i64 0] K = K (bptr sv 0) := fun K => by rw [i1 .i64 0 K (by omega) (by simp)]
          simp (disch := omega) only [↓sxA, ↓wk_store, sxB, sxP, simprocAttr, ↓nsv, ↓ix2, ↓ld2]
          refine kQuote _ v0 (by omega) fun s5 F5 => ?_
          have hT5 := hT0.keep F5
          have h1q := quoteL_len2 y2
          have h2q := bs_size (quoteL v0.data.toList)
          have h3q := size_list v0
          simp (disch := omega) only [↓sxA, ↓wk_store, sxB, sxP, simprocAttr]
          refine appendM (n := a.out.length) (m := 2) (new := [.string a.name, .string (bs (quoteL v0.data.toList))]) (hT5.go.keep fun i hi => get_new_ne _ _ _ (by have := hT5.o2; omega)) rfl (src_row (get_new_same _ _) rfl (by simp)) rfl (by decide) (by decide) rfl (by omega) (by omega) fun s8 g1 g2 g3 => ?_
          have e8 : s8.next = s5.next + 2 := g2
          have fr8 : ∀ i, i + 1 ≠ ow ov → i < s5.next → s8.get i = s5.get i := fun i h1 h2 => (g3 i h1 (by show i < s5.next + 1; omega)).trans (get_new_ne _ _ _ (by omega))
          have hT8 := hT5.push (xs := [a.name, bs (quoteL v0.data.toList)]) (by simp) (fun x hx => by simp at hx; rcases hx with rfl | rfl <;> omega) rfl rfl g1 (by show s5.next < s5.next + 1 + 1; omega) (by show s5.next + 1 + 1 ≤ s8.next; omega) (by omega) fr8
          obtain ⟨ov8, hov8⟩ : ∃ ov8, ov8 = Value.slice (some ⟨s5.next + 1, 0, none⟩) (a.out.length + 2) (a.out.length + 2) := ⟨_, rfl⟩
          have hov8' : Value.slice (some ⟨(s5.new (.row [.string a.name, .string (bs (quoteL v0.data.toList))] 0 false)).next, 0, none⟩) (a.out.length + 2) (a.out.length + 2) = ov8 := hov8.symm
          rw [hov8'] at hT8 ⊢
          simp (disch := omega) only [↓sxA, ↓wk_store, sxB, sxP, simprocAttr]
          have hXX := hT8.le
          have hX9 : ((a.out ++ [a.name, bs (quoteL v0.data.toList)])).length ≤ 6000 := by (try simp only [List.length_append, List.length_map, List.length_cons, List.length_nil]); omega
          have hla := hT8.la
          rcases hla with ⟨e1, e2⟩ | ⟨b, p, q, e1, e2, e3, e4, e5, e6⟩
          case' inl =>
            subst e2
            refine append_none hT8.go ?_
            have hC : Cel s8 ov8 (((a.out ++ [a.name, bs (quoteL v0.data.toList)]) ++ a.last).map Value.string) := by rw [e1, List.append_nil]; exact hT8.go.cel.1
            have hZ : (a.out ++ [a.name, bs (quoteL v0.data.toList)]) ++ a.last = [] → ov8 = .slice none 0 0 := by rw [e1, List.append_nil]; exact hT8.z0
            have hl2 : a.last.length ≤ 2 := by rw [e1]; simp
            have F9 : Frm s0 s8 := hT8.fr
          case' inr =>
            subst e2
            refine appendM (n := ((a.out ++ [a.name, bs (quoteL v0.data.toList)])).length) (m := 2) (new := [.string p, .string q]) hT8.go rfl (src_row e3 rfl (by simp)) rfl (by decide) (by decide) rfl (by omega) (by omega) fun s9 g1 g2 g3 => ?_
            have hC : Cel s9 (.slice (some ⟨s8.next, 0, none⟩) (((a.out ++ [a.name, bs (quoteL v0.data.toList)])).length + 2) (((a.out ++ [a.name, bs (quoteL v0.data.toList)])).length + 2)) (((a.out ++ [a.name, bs (quoteL v0.data.toList)]) ++ a.last).map Value.string) := by rw [e1, List.map_append]; exact g1.cel.1
            have hZ : (a.out ++ [a.name, bs (quoteL v0.data.toList)]) ++ a.last = [] → Value.slice (some ⟨s8.next, 0, none⟩) (((a.out ++ [a.name, bs (quoteL v0.data.toList)])).length + 2) (((a.out ++ [a.name, bs (quoteL v0.data.toList)])).length + 2) = .slice none 0 0 := by rw [e1]; intro hh; simp at hh
            have hl2 : a.last.length ≤ 2 := by rw [e1]; simp
            have F9 : Frm s0 s9 := ⟨by have := hT8.fr.nx; omega, fun i hi => (g3 i (by have := hT8.o1; omega) (by have := hT8.fr.nx; omega)).trans (hT8.fr.old i hi)⟩
          all_goals
            have hJb := join_small (xs := (a.out ++ [a.name, bs (quoteL v0.data.toList)]) ++ a.last) (fun x hx => by
              rcases List.mem_append.1 hx with q | q
              · exact hXX x q
              · exact hls x q) (by rw [List.length_append]; omega)
            simp (disch := omega) only [↓sxA, ↓wk_store, sxB, sxP, simprocAttr]
            refine kJoin _ (xs := (a.out ++ [a.name, bs (quoteL v0.data.toList)]) ++ a.last) hC ⟨#[32]⟩ (by rw [List.length_append]; omega) hJb hZ ?_
            have hbz := bs_size (Lib.join (((a.out ++ [a.name, bs (quoteL v0.data.toList)]) ++ a.last).map (·.data.toList)) [32])
            rw [show (ByteArray.data ⟨#[32]⟩).toList = [32] from rfl]
            have hfin := fun v e st' hv => fin v e st' hv
            rw [hF] at hfin
            simp only [lineE] at hfin
            by_cases hJ : 1000 < (Lib.join (((a.out ++ [a.name, bs (quoteL v0.data.toList)]) ++ a.last).map (·.data.toList)) [32]).length
            · rw [if_pos hJ] at hfin
              generalize Lib.join (((a.out ++ [a.name, bs (quoteL v0.data.toList)]) ++ a.last).map (·.data.toList)) [32] = J at *
              simp (disch := omega) only [↓sxA, ↓wk_store, sxB, sxP, simprocAttr]
              exact hfin _ _ _ rfl F9
            · rw [if_neg hJ] at hfin
              generalize Lib.join (((a.out ++ [a.name, bs (quoteL v0.data.toList)]) ++ a.last).map (·.data.toList)) [32] = J at *
              simp (disch := omega) only [↓sxA, ↓wk_store, sxB, sxP, simprocAttr]
              exact hfin _ _ _ rfl F9
end
end Go.Proofs.YtdmemibnphcedaaGreatDoor
