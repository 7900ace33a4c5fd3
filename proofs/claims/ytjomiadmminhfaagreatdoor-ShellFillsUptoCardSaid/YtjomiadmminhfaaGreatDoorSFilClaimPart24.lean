/-
  The chapter's Fit.
  Lists of arguments read: Get, EqArgs.
-/
import Derived.Test.YtjomiadmminhfaaGreatDoorSFilClaimPart23
section
set_option linter.unusedSimpArgs false
set_option linter.unusedVariables false
set_option maxRecDepth 10000
set_option linter.unusedSectionVars false
namespace Go.Proofs.YtjomiadmminhfaaGreatDoor
open Go.Am
attribute [local irreducible] callO wopK ropK popK opK grpsE listE sx Runs

/-! ### values are no longer than the line, and there are no more of them -/
def Sm (L : List UInt8) (m : Nat) (cs : List Cl) : Prop := ∀ k, (clAt cs k).vals.length ≤ m ∧ ∀ v, v ∈ (clAt cs k).vals → v.size ≤ L.length + 1
theorem Sm.upd {L : List UInt8} {m m' : Nat} {cs : List Cl} (h : Sm L m cs) (k : Nat) (f : Cl → Cl) (hm : m ≤ m') (h1 : (f (clAt cs k)).vals.length ≤ m') (h2 : ∀ v, v ∈ (f (clAt cs k)).vals → v.size ≤ L.length + 1) : Sm L m' (upd' cs k f) := fun i => by
 by_cases e : k = i
 ·subst e
  by_cases hk : k < cs.length
  ·rw [upd_same _ _ _ hk]; exact ⟨h1, h2⟩
  ·have : upd' cs k f = cs := List.set_eq_of_length_le (by omega)
   rw [this]; exact ⟨Nat.le_trans (h k).1 hm, (h k).2⟩
 ·rw [upd_ne _ _ _ _ e]; exact ⟨Nat.le_trans (h i).1 hm, (h i).2⟩
theorem Sm.mono {L : List UInt8} {m m' : Nat} {cs : List Cl} (h : Sm L m cs) (hm : m ≤ m') : Sm L m' cs := fun i => ⟨Nat.le_trans (h i).1 hm, (h i).2⟩
theorem Sm.push {L : List UInt8} {m : Nat} {cs : List Cl} (h : Sm L m cs) (k : Nat) {w : List UInt8} (hw : w.length ≤ L.length + 1) : Sm L (m + 1) (upd' cs k (Cl.push (bs w))) := by
 refine h.upd k _ (Nat.le_succ _) (by have := (h k).1; simp [Cl.push]; omega) fun v hv => ?_
 rcases List.mem_append.1 hv with hv | hv
 ·exact (h k).2 v hv
 ·rw [List.mem_singleton.1 hv, bs_size]; exact hw
theorem Sm.rest {L : List UInt8} {m : Nat} {cs : List Cl} (h : Sm L m cs) {p k : Nat} {r : Option (List Cl)} (hr : restA L p k cs = .done r) : ∀ cs', r = some cs' → Sm L (m + 1) cs' := by
 unfold restA at hr
 split at hr
 ·cases hr
  rintro cs' ⟨⟩
  refine h.upd k _ (Nat.le_succ _) (by simp [Cl.one]) fun v hv => ?_
  rw [List.mem_singleton.1 hv, bs_size]
  have := trimE_le (L.drop p)
  rw [List.length_drop] at this
  omega
 ·cases hr
  intro cs' hh
  cases hh
theorem rest_done {L : List UInt8} {p k : Nat} {cs : List Cl} {a : Nat} {b : List Cl} (h : restA L p k cs = .go a b) : False := by
 unfold restA at h
 split at h <;> cases h

theorem Sm.val {L : List UInt8} {l : List IM} {m fr : Nat} {cs : List Cl} {w : Option (List UInt8 × Bool × Nat)} (h : Sm L m cs) (hw : ∀ a b c, w = some (a, b, c) → a.length ≤ L.length + 1) : (∀ p' cs', valA L l fr w cs = .go p' cs' → Sm L (m + 1) cs') ∧ ∀ cs', valA L l fr w cs = .done (some cs') → Sm L (m + 1) cs' := by
 unfold valA
 split
 ·exact ⟨fun _ _ h => (by cases h), fun _ h => (by cases h)⟩
 ·split
  ·exact ⟨fun _ _ h => (rest_done h).elim, fun cs' hh => h.rest hh cs' rfl⟩
  ·split
   ·exact ⟨fun _ _ h => (by cases h), fun _ h => (by cases h)⟩
   ·rename_i s q to
    split
    ·exact ⟨fun _ _ h => (by cases h), fun _ h => (by cases h)⟩
    ·refine ⟨fun p' cs' hh => ?_, fun _ h => (by cases h)⟩
     cases hh
     exact h.push _ (hw s q to rfl)
theorem Sm.nam {L : List UInt8} {l : List IM} {m k p : Nat} {cs : List Cl} (h : Sm L m cs) : (∀ p' cs', namA L l k p cs = .go p' cs' → Sm L (m + 1) cs') ∧ ∀ cs', namA L l k p cs = .done (some cs') → Sm L (m + 1) cs' := by
 have hon : Sm L m (upd' cs k Cl.on) := h.upd k _ (Nat.le_refl _) (h k).1 (h k).2
 unfold namA
 split
 ·exact ⟨fun _ _ h => (by cases h), fun _ h => (by cases h)⟩
 ·split
  ·refine ⟨fun p' cs' hh => ?_, fun _ h => (by cases h)⟩
   cases hh
   exact hon.mono (Nat.le_succ _)
  ·split
   ·exact ⟨fun _ _ h => (by cases h), fun _ h => (by cases h)⟩
   ·split
    ·exact ⟨fun _ _ h => (rest_done h).elim, fun cs' hh => hon.rest hh cs' rfl⟩
    ·exact ⟨fun _ _ h => (by cases h), fun _ h => (by cases h)⟩
   ·rename_i s q fr to hn
    split
    ·exact ⟨fun _ _ h => (rest_done h).elim, fun cs' hh => hon.rest hh cs' rfl⟩
    ·split
     ·exact ⟨fun _ _ h => (by cases h), fun _ h => (by cases h)⟩
     ·refine ⟨fun p' cs' hh => ?_, fun _ h => (by cases h)⟩
      cases hh
      exact hon.push _ (nxt_len hn)
theorem Sm.step {L : List UInt8} {l : List IM} {m p : Nat} {cs : List Cl} (h : Sm L m cs) : (∀ p' cs', stepA L l p cs = .go p' cs' → Sm L (m + 1) cs') ∧ ∀ cs', stepA L l p cs = .done (some cs') → Sm L (m + 1) cs' := by
 unfold stepA
 split
 ·refine ⟨fun _ _ h => (by cases h), fun cs' hh => ?_⟩
  cases hh
  exact h.mono (Nat.le_succ _)
 ·exact h.val fun a b c e => by cases e
 ·rename_i s q fr to hn
  split
  ·exact h.nam
  ·refine h.val fun a b c e => ?_
   cases e
   exact nxt_len hn
section
variable {st : St} {K : Value → St → Prop}

end
end Go.Proofs.YtjomiadmminhfaaGreatDoor
end
section
set_option linter.unusedSimpArgs false
set_option linter.unusedVariables false
set_option maxRecDepth 10000
set_option linter.unusedSectionVars false
namespace Go.Proofs.YtjomiadmminhfaaGreatDoor
open Go.Am
attribute [local irreducible] callO wopK ropK popK opK grpsE listE sx Runs

/-- a list of arguments that is read alone, now and later -/
def AgC (st : St) (v : Value) (ns : List ByteArray) (cs : List Cl) : Prop :=
 (∀ K : Value → Prop, popK .lenSl [v] K = K (.int .i64 (cs.length : Nat))) ∧ ∀ j, j < cs.length → ∃ (b : Nat) (vv : Value), (∀ K : Value → Prop, popK (.indexAddr 3) [v, .int .i64 (j : Int)] K = K (.pointer (some ⟨b, j * 3, none⟩))) ∧ oneCell vv = true ∧ ow vv ≤ st.next ∧ ∀ s', Frm st s' →
  (∀ K : Value → Prop, ropK (.loadN 3) [.pointer (some ⟨b, j * 3, none⟩)] s' K = K (.agg #[.string (ns.getD j .empty), vv, .bool (clAt cs j).set])) ∧ (∀ K : Value → Prop, ropK .load1 [.pointer (some ⟨b, j * 3 + 0, none⟩)] s' K = K (.string (ns.getD j .empty))) ∧
  (∀ K : Value → Prop, ropK .load1 [.pointer (some ⟨b, j * 3 + 1, none⟩)] s' K = K vv) ∧ (∀ K : Value → Prop, ropK .load1 [.pointer (some ⟨b, j * 3 + 2, none⟩)] s' K = K (.bool (clAt cs j).set)) ∧ Cel s' vv ((clAt cs j).vals.map Value.string)

theorem rk_loadK_of {st s' : St} {b o k : Nat} (h : s'.get b = st.get b) (K : Value → Prop) : ropK (.loadN k) [.pointer (some ⟨b, o, none⟩)] s' K = ropK (.loadN k) [.pointer (some ⟨b, o, none⟩)] st K := by
 simp only [ropK, rop, St.cells, h]
theorem AgR.agC {ok : Nat → Prop} {g : Bool} {st : St} {v : Value} {ns : List ByteArray} {cs : List Cl} (h : AgR ok g st v ns cs) : AgC st v ns cs := by
 refine ⟨h.len, fun j hj => ?_⟩
 obtain ⟨b, vv, o1, o2, o3, o4, o5, o6, o7, o8, o9⟩ := h.at hj
 obtain ⟨_, onx⟩ := h.okv
 refine ⟨b, vv, o2, o7.2.1, o9, fun s' F => ?_⟩
 have hb : s'.get b = st.get b := F.old b (by omega)
 refine ⟨fun K => ?_, fun K => ?_, fun K => ?_, fun K => ?_, o7.1.keep fun i hi => F.old i (by omega)⟩
 ·rw [rk_loadK_of hb]; exact o3 K
 ·rw [rk_load1, hb, ← rk_load1]; exact o4 K
 ·rw [rk_load1, hb, ← rk_load1]; exact o5 K
 ·rw [rk_load1, hb, ← rk_load1]; exact o6 K
theorem AgC.keep {st st' : St} {v : Value} {ns : List ByteArray} {cs : List Cl} (h : AgC st v ns cs) (F : Frm st st') : AgC st' v ns cs := by
 refine ⟨h.1, fun j hj => ?_⟩
 obtain ⟨b, vv, o1, o2, o3, o4⟩ := h.2 j hj
 exact ⟨b, vv, o1, o2, Nat.le_trans o3 F.nx, fun s' F' => o4 s' (F.trans F')⟩
theorem AgC.nil (st : St) : AgC st (.slice none 0 0) [] [] := (AgR.nil (ok := fun _ => True) (g := false) (ns := [])).agC
open Classical in
noncomputable def nmI (x : ByteArray) : List ByteArray → Nat → Int
 | [], _ => -1
 | y :: r, i => if y = x then i else nmI x r (i + 1)

/-- what Get gives -/
def GetO (ns : List ByteArray) (cs : List Cl) (x : ByteArray) (a : ByteArray) (u : Value) (c ok : Bool) (st : St) : Prop :=
 (nmI x ns 0 = -1 ∧ a = .empty ∧ u = .slice none 0 0 ∧ c = false ∧ ok = false) ∨
 ∃ j : Nat, j < cs.length ∧ nmI x ns 0 = (j : Int) ∧ a = ns.getD j .empty ∧ c = (clAt cs j).set ∧ ok = true ∧ oneCell u = true ∧ ow u ≤ st.next ∧ Cel st u ((clAt cs j).vals.map Value.string)

section
variable {st : St} {K : Value → St → Prop} {ns : List ByteArray} {cs : List Cl} {v u : Value} {x : ByteArray}

theorem nmI_at {j : Nat} (hj : j < ns.length) : nmI x (ns.drop j) j = if ns.getD j .empty = x then (j : Int) else nmI x (ns.drop (j + 1)) (j + 1) := by
 rw [List.drop_eq_getElem_cons hj]
 have : ns.getD j .empty = ns[j] := by rw [List.getD_eq_getElem?_getD, List.getElem?_eq_getElem hj, Option.getD_some]
 rw [this]
 simp only [nmI]

open Classical in
theorem kGetIn (n : Nat) {a : ByteArray} {c : Bool} {b g : Nat} {ro : Bool} (hb : st.get b = some (.row [.string x] g ro)) (hbn : b < st.next) (ho : oneCell u = true) (h : ∀ st', Frm st st' → K (.bool (decide (a = x))) st') :
  callK (callO T0 orc fns 100000 (n + 1)) 85 [.agg #[.string a, u, .bool c], .pointer (some ⟨b, 0, none⟩)] st K := by
 refine fn_runs (fn := g85) ?_ ?_ ?_
 ·rfl
 ·rfl
 unfold g85
 have F := Frm.new st (.row [.string a, u, .bool c] 0 false)
 have hb2 := (F.old b hbn).trans hb
 have hbx : (st.new (.row [.string a, u, .bool c] 0 false)).get st.next = some (.row [.string a, u, .bool c] 0 false) := get_new_same _ _
 have hc := one_cells ho
 by_cases e : a = x
 ·have e1 : (a = x) = True := eq_true e
  rw [decide_eq_true e] at h
  simp (disch := omega) only [↓sxA, ↓wk_store, sxB, sxP, simprocAttr, hb2, hbx, hc, ho, e1]
  exact h _ F
 ·have e1 : (a = x) = False := eq_false e
  rw [decide_eq_false e] at h
  simp (disch := omega) only [↓sxA, ↓wk_store, sxB, sxP, simprocAttr, hb2, hbx, hc, ho, e1]
  exact h _ F

open Classical in
theorem kGetItems (n : Nat) {b g : Nat} {ro : Bool} (hA : AgC st v ns cs) (hns : ns.length = cs.length) (hb : st.get b = some (.row [.string x] g ro)) (hbn : b < st.next) (hl : cs.length < 90000) (h : ∀ st', Frm st st' → K (.int .i64 (nmI x ns 0)) st') :
  callK (callO T0 orc fns 100000 (n + 2)) 84 [v, .func (.func 85) #[] #[.pointer (some ⟨b, 0, none⟩)]] st K := by
 refine fn_runs (fn := g84) ?_ ?_ ?_
 ·rfl
 ·rfl
 unfold g84
 have la := hA.1
 simp (disch := omega) only [↓sxA, ↓wk_store, sxB, sxP, simprocAttr, ↓la]
 refine loop_rule [0, 1, 7, 8] (fun vs s => ∃ j : Nat, vs = [v, .func (.func 85) #[] #[.pointer (some ⟨b, 0, none⟩)], .int .i64 (cs.length : Nat), .int .i64 j] ∧ j ≤ cs.length ∧ Frm st s ∧ nmI x (ns.drop j) j = nmI x ns 0) (fun vs _ => match lget vs 3 with
   | .int _ k => ((cs.length : Int) - k).toNat
   | _ => 0) ?_ ?_ ?_
 ·rfl
 ·refine ⟨_, rfl, ⟨0, rfl, Nat.zero_le _, Frm.refl _, rfl⟩, ?_⟩
  show ((cs.length : Int) - 0).toNat < 100000
  omega
 ·rintro vs s ⟨j, rfl, j1, F, hk⟩
  show sx _ _ _ _ _ [(0, _), (1, _), (7, _), (8, _)] _ _ _ _
  by_cases hj : j < cs.length
  ·obtain ⟨bb, vv, o1, o2, o3, o4⟩ := hA.2 j hj
   obtain ⟨p1, p2, p3, p4, p5⟩ := o4 s F
   rw [nmI_at (by omega)] at hk
   simp (disch := omega) only [↓sxA, ↓wk_store, sxB, sxP, simprocAttr, ↓o1, ↓p1]
   refine kGetIn n ((F.old b hbn).trans hb) (Nat.lt_of_lt_of_le hbn F.nx) o2 fun s2 F2 => ?_
   by_cases hin : ns.getD j .empty = x
   ·rw [if_pos hin] at hk
    rw [decide_eq_true hin]
    simp (disch := omega) only [↓sxA, ↓wk_store, sxB, sxP, simprocAttr]
    rw [hk]
    exact h _ (F.trans F2)
   ·rw [if_neg hin] at hk
    rw [decide_eq_false hin]
    simp (disch := omega) only [↓sxA, ↓wk_store, sxB, sxP, simprocAttr]
    refine ⟨_, rfl, ⟨j + 1, ?_, hj, F.trans F2, hk⟩, ?_⟩
    ·simp
    ·show ((cs.length : Int) - ((j : Int) + 1)).toNat < ((cs.length : Int) - j).toNat
     omega
  ·have e : ns.drop j = [] := List.drop_eq_nil_of_le (by omega)
   rw [e] at hk
   simp only [nmI] at hk
   rw [← hk] at h
   simp (disch := omega) only [↓sxA, ↓wk_store, sxB, sxP, simprocAttr]
   exact h _ F

theorem nmI_lt : ∀ (ns : List ByteArray) (i : Nat), nmI x ns i = -1 ∨ ((i : Int) ≤ nmI x ns i ∧ nmI x ns i < (i : Int) + ns.length)
 | [], i => .inl rfl
 | y :: r, i => by
  simp only [nmI]
  split
  ·right; simp; omega
  ·rcases nmI_lt r (i + 1) with h | h
   ·exact .inl h
   ·right; simp only [List.length_cons]; omega

theorem kGet (n : Nat) (hA : AgC st v ns cs) (hns : ns.length = cs.length) (hl : cs.length < 90000) (h : ∀ a u c ok st', GetO ns cs x a u c ok st' → Frm st st' → K (.tuple #[.agg #[.string a, u, .bool c], .bool ok]) st') :
  callK (callO T0 orc fns 100000 (n + 3)) 54 [v, .string x] st K := by
 refine fn_runs (fn := g54) ?_ ?_ ?_
 ·rfl
 ·rfl
 unfold g54
 obtain ⟨s1, hs1⟩ : ∃ s1, s1 = (st.new (.row [.string x] 0 false)).new (.row [.string .empty, .slice none 0 0, .bool false] 0 false) := ⟨_, rfl⟩
 have F1 : Frm st s1 := by rw [hs1]; exact (Frm.new st _).trans (Frm.new _ _)
 have n1 : s1.next = st.next + 2 := by rw [hs1]; rfl
 have hb1 : s1.get st.next = some (.row [.string x] 0 false) := by rw [hs1, get_new_ne _ _ _ (by show st.next + 1 ≠ st.next; omega)]; exact get_new_same _ _
 have hb2 : s1.get (st.next + 1) = some (.row [.string .empty, .slice none 0 0, .bool false] 0 false) := by rw [hs1]; exact get_new_same _ _
 simp (disch := omega) only [↓sxA, ↓wk_store, sxB, sxP, simprocAttr]
 rw [← hs1]
 clear hs1
 show callK _ _ [v, .func (.func 85) #[] #[.pointer (some ⟨st.next, 0, none⟩)]] _ _
 refine kGetItems n (hA.keep F1) hns hb1 (by omega) hl fun s2 F2 => ?_
 have hbx := (F2.old (st.next + 1) (by omega)).trans hb2
 have F12 := F1.trans F2
 have hn2 := F2.nx
 have hF : ∀ o, Frm st (s2.put (st.next + 1) o) := fun o => F12.put _ (by omega) _
 rcases nmI_lt (x := x) ns 0 with hm | hm
 ·rw [hm]
  simp (disch := omega) only [hbx, ↓sxA, ↓wk_store, sxB, sxP, simprocAttr]
  rw [resP_k1]
  simp (disch := omega) only [↓rk_put3, ↓sxA, ↓wk_store, sxB, sxP, simprocAttr]
  exact h _ _ _ _ _ (.inl ⟨hm, rfl, rfl, rfl, rfl⟩) (hF _)
 ·obtain ⟨j, hj⟩ : ∃ j : Nat, nmI x ns 0 = (j : Int) := ⟨(nmI x ns 0).toNat, by omega⟩
  have hjl : j < cs.length := by omega
  obtain ⟨bb, vv, o1, o2, o3, o4⟩ := hA.2 j hjl
  obtain ⟨p1, p2, p3, p4, p5⟩ := o4 s2 F12
  have hc := one_cells o2
  rw [hj]
  simp (disch := omega) only [hbx, ↓o1, ↓p1, hc, o2, ↓sxA, ↓wk_store, sxB, sxP, simprocAttr]
  rw [resP_k1]
  simp (disch := omega) only [↓rk_put3, ↓sxA, ↓wk_store, sxB, sxP, simprocAttr]
  have hFr : Frm st (s2.put (st.next + 1) (some (.row [.string (ns.getD j .empty), vv, .bool (clAt cs j).set] 0 false))) := hF _
  exact h _ _ _ _ _ (.inr ⟨j, hjl, hj, rfl, rfl, rfl, o2, Nat.le_trans o3 hFr.nx, (o4 _ hFr).2.2.2.2⟩) hFr

end
end Go.Proofs.YtjomiadmminhfaaGreatDoor
end
