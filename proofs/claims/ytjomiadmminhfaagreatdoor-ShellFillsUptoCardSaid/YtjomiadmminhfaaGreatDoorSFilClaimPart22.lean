/-
  Lists of arguments on the heap.
  The program's small functions on lines: readable, blank, next, isSign.
  The program's find and free.
  The program's give and rest.
  The program's name: what stands behind an item's name.
  The program's name, walked.
  The program's Fit.
  The chapter's small functions: lower, known, rest, open, Number.
  The chapter's next.
-/
import Derived.Test.YtjomiadmminhfaaGreatDoorSFilClaimPart20
import Derived.Test.YtjomiadmminhfaaGreatDoorSFilClaimPart21
section
set_option linter.unusedSimpArgs false
set_option linter.unusedVariables false
set_option maxRecDepth 10000
set_option linter.unusedSectionVars false
namespace Go.Proofs.YtjomiadmminhfaaGreatDoor
open Go.Am

/-- the values of an argument -/
def VlR (g : Bool) (st : St) (v : Value) (l : List ByteArray) : Prop := Cel st v (l.map Value.string) ∧ oneCell v = true ∧ (g = true → GroK 1 st v (l.map Value.string) l.length)
theorem VlR.keep {g : Bool} {st st' : St} {v : Value} {l : List ByteArray} (h : VlR g st v l) (hb : ∀ i, i + 1 = ow v → st'.get i = st.get i) : VlR g st' v l := ⟨h.1.keep hb, h.2.1, fun e => (h.2.2 e).keep hb⟩
theorem GroK.one {esz n : Nat} {st : St} {v : Value} {cs : List Value} (h : GroK esz st v cs n) : oneCell v = true := by
 rcases h with ⟨h1, _⟩ | ⟨b, cap, h1, _⟩ <;> subst h1 <;> rfl
theorem GroK.vl {g : Bool} {st : St} {v : Value} {l : List ByteArray} (h : GroK 1 st v (l.map Value.string) l.length) : VlR g st v l := ⟨h.cel.1, h.one, fun _ => h⟩
/-- a list of arguments: its cells, and where each one's values are -/
def AgR (ok : Nat → Prop) (g : Bool) (st : St) (v : Value) (ns : List ByteArray) (cs : List Cl) : Prop :=
 ∃ (es : List Value) (vf : Nat → Value), GroK 3 st v es cs.length ∧ (ow v = 0 ∨ ok (ow v)) ∧ ow v ≤ st.next ∧
  (∀ j, j < cs.length → es[j * 3]? = some (.string (ns.getD j .empty)) ∧ es[j * 3 + 1]? = some (vf j) ∧ es[j * 3 + 2]? = some (.bool (clAt cs j).set)) ∧
  ∀ j, j < cs.length → VlR g st (vf j) (clAt cs j).vals ∧ (ow (vf j) = 0 ∨ (ok (ow (vf j)) ∧ ow (vf j) ≠ ow v)) ∧ ow (vf j) ≤ st.next ∧ ∀ k, k < cs.length → k ≠ j → ow (vf j) = 0 ∨ ow (vf j) ≠ ow (vf k)

section
variable {ok ok' : Nat → Prop} {g : Bool} {st st' : St} {v : Value} {ns : List ByteArray} {cs : List Cl}

theorem AgR.nil : AgR ok g st (.slice none 0 0) ns [] := ⟨[], fun _ => undef, GroK.nil _ _, .inl rfl, Nat.zero_le _, fun j h => by simp at h, fun j h => by simp at h⟩
theorem AgR.keep (h : AgR ok g st v ns cs) (hn : st.next ≤ st'.next) (hf : ∀ i, ok (i + 1) → i < st.next → st'.get i = st.get i) : AgR ok g st' v ns cs := by
 obtain ⟨es, vf, h1, h2, h3, h4, h5⟩ := h
 refine ⟨es, vf, h1.keep fun i hi => ?_, h2, by omega, h4, fun j hj => ?_⟩
 ·rcases h2 with h2 | h2
  ·omega
  ·exact hf i (by rw [hi]; exact h2) (by omega)
 ·obtain ⟨k1, k2, k3, k4⟩ := h5 j hj
  refine ⟨k1.keep fun i hi => ?_, k2, by omega, k4⟩
  rcases k2 with k2 | k2
  ·omega
  ·exact hf i (by rw [hi]; exact k2.1) (by omega)
theorem AgR.len (h : AgR ok g st v ns cs) (K : Value → Prop) : popK .lenSl [v] K = K (.int .i64 (cs.length : Nat)) := by
 obtain ⟨es, vf, h1, _⟩ := h
 rcases h1 with ⟨q1, q2, q3⟩ | ⟨b, cap, q1, _⟩
 ·rw [q1, q3]; rfl
 ·rw [q1, pk_lenSl]

theorem lput1_get (es : List Value) (o : Nat) (x : Value) (h : o < es.length) (i : Nat) : (lputs es o [x])[i]? = if i = o then some x else es[i]? := by
 rw [lputs_get es [x] o i (by simp; omega)]
 by_cases e : i = o
 ·subst e; simp
 ·rw [if_neg e]
  by_cases h1 : i < o
  ·rw [if_pos h1]
  ·rw [if_neg h1, if_neg (by simp; omega)]
theorem lput1_len (es : List Value) (o : Nat) (x : Value) (h : o < es.length) : (lputs es o [x]).length = es.length := lputs_length es [x] o (by simp; omega)

/-- an argument of the list -/
theorem AgR.at (h : AgR ok g st v ns cs) {j : Nat} (hj : j < cs.length) : ∃ (b : Nat) (vv : Value), ow v = b + 1 ∧ (∀ K : Value → Prop, popK (.indexAddr 3) [v, .int .i64 (j : Int)] K = K (.pointer (some ⟨b, j * 3, none⟩))) ∧
  (∀ K : Value → Prop, ropK (.loadN 3) [.pointer (some ⟨b, j * 3, none⟩)] st K = K (.agg #[.string (ns.getD j .empty), vv, .bool (clAt cs j).set])) ∧
  (∀ K : Value → Prop, ropK .load1 [.pointer (some ⟨b, j * 3, none⟩)] st K = K (.string (ns.getD j .empty))) ∧ (∀ K : Value → Prop, ropK .load1 [.pointer (some ⟨b, j * 3 + 1, none⟩)] st K = K vv) ∧ (∀ K : Value → Prop, ropK .load1 [.pointer (some ⟨b, j * 3 + 2, none⟩)] st K = K (.bool (clAt cs j).set)) ∧
  VlR g st vv (clAt cs j).vals ∧ (ow vv = 0 ∨ (ok (ow vv) ∧ ow vv ≠ ow v)) ∧ ow vv ≤ st.next := by
 obtain ⟨es, vf, h1, h2, h3, h4, h5⟩ := h
 obtain ⟨a1, a2, a3⟩ := h4 j hj
 obtain ⟨k1, k2, k3, k4⟩ := h5 j hj
 rcases h1 with ⟨q1, q2, q3⟩ | ⟨b, cap, q1, q2, q3, q4⟩
 ·omega
 have ld : ∀ (o : Nat) (x : Value), es[o]? = some x → ∀ K : Value → Prop, ropK .load1 [.pointer (some ⟨b, o, none⟩)] st K = K x := fun o x hx K => by
  rw [rk_load1, q3]
  simp only [getK, rowK]
  exact nthK_at hx K
 refine ⟨b, vf j, by rw [q1]; rfl, fun K => ?_, fun K => ?_, ld _ _ a1, ld _ _ a2, ld _ _ a3, k1, k2, k3⟩
 ·rw [q1, pk_indexAddr]
  have e : (0 : Nat) + (j : Int).toNat * 3 = j * 3 := by omega
  rw [e]
  exact propext ⟨fun h => h.2, fun h => ⟨⟨by omega, by omega⟩, h⟩⟩
 ·refine rk_loadK q3 (k := 3) (xs := [.string (ns.getD j .empty), vf j, .bool (clAt cs j).set]) ?_ rfl (by decide) K
  have hl : ((es.drop (j * 3)).take 3).length = 3 := by rw [List.length_take, List.length_drop]; omega
  refine List.ext_getElem? fun i => ?_
  by_cases hi : i < 3
  ·rw [List.getElem?_take_of_lt hi, List.getElem?_drop]
   match i, hi with
   | 0, _ => exact a1
   | 1, _ => exact a2
   | 2, _ => exact a3
  ·rw [List.getElem?_eq_none (by omega), List.getElem?_eq_none (by simp; omega)]

/-- an argument is set -/
theorem AgR.put_set (h : AgR ok g st v ns cs) {j : Nat} (hj : j < cs.length) (f : Cl → Cl) (hf : ∀ c, (f c).vals = c.vals ∧ (f c).set = true) {b : Nat} (hb : ow v = b + 1) : ∃ s', (∀ W : Value → St → Prop, wopK (.store 1) [.pointer (some ⟨b, j * 3 + 2, none⟩), .bool true] st W = W undef s') ∧ AgR ok g s' v ns (upd' cs j f) ∧ s'.next = st.next ∧ ∀ i, i ≠ b → s'.get i = st.get i := by
 obtain ⟨es, vf, h1, h2, h3, h4, h5⟩ := h
 rcases h1 with ⟨q1, q2, q3⟩ | ⟨b', cap, q1, q2, q3, q4⟩
 ·omega
 obtain rfl : b' = b := by subst q1; simpa [ow] using hb
 have hl : j * 3 + 2 < es.length := by omega
 refine ⟨st.put b' (some (.row (lputs es (j * 3 + 2) [.bool true]) 3 false)), fun W => ?_, ?_, rfl, fun i hi => get_put_ne _ _ _ _ (Ne.symm hi)⟩
 ·rw [wk_store, q3]
  simp only [getK, rowK]
  exact propext ⟨fun h => h.2.2, fun h => ⟨rfl, ⟨by first | trivial | rfl, by omega, by rfl⟩, h⟩⟩
 ·refine ⟨_, vf, .inr ⟨b', cap, by rw [upd_len]; exact q1, by rw [upd_len]; exact q2, get_put_same _ _ _, by rw [lput1_len _ _ _ hl, upd_len]; exact q4⟩, h2, h3, fun i hi => ?_, fun i hi => ?_⟩
  ·rw [upd_len] at hi
   obtain ⟨a1, a2, a3⟩ := h4 i hi
   rw [lput1_get _ _ _ hl, lput1_get _ _ _ hl, lput1_get _ _ _ hl, if_neg (by omega), if_neg (by omega)]
   refine ⟨a1, a2, ?_⟩
   by_cases e : i = j
   ·subst e; rw [if_pos rfl, upd_same _ _ _ hi, (hf _).2]
   ·rw [if_neg (by omega), upd_ne _ _ _ _ (Ne.symm e)]; exact a3
  ·rw [upd_len] at hi ⊢
   obtain ⟨k1, k2, k3, k4⟩ := h5 i hi
   have e : (clAt (upd' cs j f) i).vals = (clAt cs i).vals := by
    by_cases e : i = j
    ·subst e; rw [upd_same _ _ _ hi, (hf _).1]
    ·rw [upd_ne _ _ _ _ (Ne.symm e)]
   rw [e]
   refine ⟨k1.keep fun x hx => get_put_ne _ _ _ _ fun e => ?_, k2, k3, k4⟩
   subst e
   omega

/-- an argument gets other values, which lie in a new row -/
theorem AgR.put_vals {g' : Bool} {s1 : St} {vv vv0 : Value} {l : List ByteArray} (h : AgR ok g st v ns cs) {j : Nat} (hj : j < cs.length) (f : Cl → Cl) (hf : ∀ c, (f c).vals = l ∧ (f c).set = c.set) {b : Nat} (hb : ow v = b + 1) (hg : g' = true → g = true)
  (hn : st.next ≤ s1.next) (hold : ∀ K : Value → Prop, ropK .load1 [.pointer (some ⟨b, j * 3 + 1, none⟩)] st K = K vv0) (hfr : ∀ i, i + 1 ≠ ow vv0 → i < st.next → s1.get i = st.get i) (hv : VlR g' s1 vv l) (hok : ok (ow vv)) (h0 : st.next < ow vv) (h1 : ow vv ≤ s1.next) :
  ∃ s', (∀ W : Value → St → Prop, wopK (.store 1) [.pointer (some ⟨b, j * 3 + 1, none⟩), vv] s1 W = W undef s') ∧ AgR ok g' s' v ns (upd' cs j f) ∧ s'.next = s1.next ∧ ∀ i, i ≠ b → s'.get i = s1.get i := by
 obtain ⟨es, vf, h1', h2, h3, h4, h5⟩ := h
 rcases h1' with ⟨q1, q2, q3⟩ | ⟨b', cap, q1, q2, q3, q4⟩
 ·omega
 obtain rfl : b' = b := by subst q1; simpa [ow] using hb
 obtain ⟨a1, a2, a3⟩ := h4 j hj
 obtain ⟨k1, k2, k3, k4⟩ := h5 j hj
 have hokv : ok (b' + 1) := by
  rcases h2 with h2 | h2
  ·omega
  ·rw [← hb]; exact h2
 have hvv : vf j = vv0 := by
  have := hold (· = vv0)
  rw [rk_load1, q3] at this
  simp only [getK, rowK] at this
  rw [nthK_at a2] at this
  exact this.mpr trivial
 have keepIt : ∀ i, ok (i + 1) → i < st.next → i + 1 ≠ ow (vf j) → s1.get i = st.get i := fun i hi hl hne => hfr i (by rw [← hvv]; exact hne) hl
 have hb1 : s1.get b' = some (.row es 3 false) := by
  rw [keepIt b' hokv (by omega) (by omega)]; exact q3
 have hl : j * 3 + 1 < es.length := by omega
 have hone : cellsOf vv = [vv] := by
  have := hv.2.1
  cases vv <;> first | rfl | (simp [oneCell] at this)
 refine ⟨s1.put b' (some (.row (lputs es (j * 3 + 1) [vv]) 3 false)), fun W => ?_, ?_, rfl, fun i hi => get_put_ne _ _ _ _ (Ne.symm hi)⟩
 ·rw [wk_store, hb1, hone]
  simp only [getK, rowK]
  exact propext ⟨fun h => h.2.2, fun h => ⟨rfl, ⟨trivial, by omega, by simp [hv.2.1]⟩, h⟩⟩
 ·refine ⟨_, fun i => if i = j then vv else vf i, .inr ⟨b', cap, by rw [upd_len]; exact q1, by rw [upd_len]; exact q2, get_put_same _ _ _, by rw [lput1_len _ _ _ hl, upd_len]; exact q4⟩, h2, by show ow v ≤ s1.next; omega, fun i hi => ?_, fun i hi => ?_⟩
  ·rw [upd_len] at hi
   obtain ⟨a1, a2, a3⟩ := h4 i hi
   rw [lput1_get _ _ _ hl, lput1_get _ _ _ hl, lput1_get _ _ _ hl, if_neg (by omega), if_neg (by omega : ¬ i * 3 + 2 = j * 3 + 1)]
   refine ⟨a1, ?_, ?_⟩
   ·by_cases e : i = j
    ·subst e; simp
    ·rw [if_neg (by omega)]; show _ = some (if i = j then vv else vf i); rw [if_neg e]; exact a2
   ·by_cases e : i = j
    ·subst e; rw [upd_same _ _ _ hi, (hf _).2]; exact a3
    ·rw [upd_ne _ _ _ _ (Ne.symm e)]; exact a3
  ·rw [upd_len] at hi ⊢
   by_cases e : i = j
   ·subst e
    simp only [if_true]
    rw [upd_same _ _ _ hi, (hf _).1]
    refine ⟨hv.keep fun x hx => get_put_ne _ _ _ _ fun e => by omega, .inr ⟨hok, by omega⟩, h1, fun k hk hne => .inr ?_⟩
    simp only [if_neg hne]
    have := (h5 k hk).2.2.1
    omega
   ·obtain ⟨m1, m2, m3, m4⟩ := h5 i hi
    simp only [if_neg e]
    rw [upd_ne _ _ _ _ (Ne.symm e)]
    refine ⟨?_, m2, by show _ ≤ s1.next; omega, fun k hk hne => ?_⟩
    ·have hk : VlR g s1 (vf i) (clAt cs i).vals := m1.keep fun x hx => by
      rcases m2 with m2 | m2
      ·omega
      ·refine keepIt x (by rw [hx]; exact m2.1) (by omega) fun e' => ?_
       rcases m4 j hj (Ne.symm e) with m4 | m4
       ·omega
       ·exact m4 (by omega)
     have hk2 : VlR g' s1 (vf i) (clAt cs i).vals := ⟨hk.1, hk.2.1, fun e => hk.2.2 (hg e)⟩
     refine hk2.keep fun x hx => get_put_ne _ _ _ _ fun e => ?_
     subst e
     omega
    ·by_cases ek : k = j
     ·subst ek
      simp only [if_true]
      by_cases h0' : ow (vf i) = 0
      ·exact .inl h0'
      ·exact .inr (by omega)
     ·simp only [if_neg ek]
      exact m4 k hk hne

/-- one argument more -/
theorem AgR.snoc {s1 : St} {nm : ByteArray} (h : AgR ok g st v ns cs) (hns : ns.getD cs.length .empty = nm) (hok : ∀ n, st.next < n → ok n) {bytes sb gg : Nat} {ro : Bool} (hs1 : s1.next = st.next + 1) (hfr : ∀ i, i < st.next → s1.get i = st.get i) (hsb : st.next ≤ sb) (hs : s1.get sb = some (.row [.string nm, .slice none 0 0, .bool false] gg ro)) (hb : (cs.length + 1) * bytes ≤ 1099511627776) (hn : cs.length + 1 ≤ 1099511627776) {W : Value → St → Prop}
  (hW : ∀ v' s2, AgR ok g s2 v' ns (cs ++ [Cl.zero]) → s2.next = s1.next + 1 → (∀ i, i + 1 ≠ ow v → i < st.next → s2.get i = st.get i) → ow v' = s1.next + 1 → W v' s2) :
  wopK (.append 3 bytes) [v, .slice (some ⟨sb, 0, none⟩) 1 1] s1 W := by
 obtain ⟨es, vf, h1, h2, h3, h4, h5⟩ := h
 have hlen : es.length = cs.length * 3 := by
  rcases h1 with ⟨q1, q2, q3⟩ | ⟨b, cap, q1, q2, q3, q4⟩
  ·rw [q2, q3]; rfl
  ·exact q4
 refine appendK (h1.keep fun i hi => hfr i (by omega)) hs rfl (by decide) rfl hb hn fun s2 k1 k2 k3 => ?_
 refine hW _ s2 ⟨es ++ [.string nm, .slice none 0 0, .bool false], fun i => if i < cs.length then vf i else .slice none 0 0, by rw [List.length_append]; exact k1, .inr (hok _ ?_), ?_, fun j hj => ?_, fun j hj => ?_⟩ k2 (fun i hi hl => (k3 i hi (by omega)).trans (hfr i hl)) rfl
 ·show st.next < s1.next + 1; omega
 ·show s1.next + 1 ≤ s2.next; omega
 ·rw [List.length_append, List.length_singleton] at hj
  by_cases e : j < cs.length
  ·obtain ⟨a1, a2, a3⟩ := h4 j e
   rw [List.getElem?_append_left (by omega), List.getElem?_append_left (by omega), List.getElem?_append_left (by omega)]
   show _ ∧ _ = some (if j < cs.length then vf j else .slice none 0 0) ∧ _
   rw [if_pos e]
   have : clAt (cs ++ [Cl.zero]) j = clAt cs j := by simp [clAt, List.getD_eq_getElem?_getD, List.getElem?_append_left e]
   rw [this]
   exact ⟨a1, a2, a3⟩
  ·obtain rfl : j = cs.length := by omega
   rw [List.getElem?_append_right (by omega), List.getElem?_append_right (by omega), List.getElem?_append_right (by omega), hlen]
   show _ ∧ _ = some (if cs.length < cs.length then vf cs.length else .slice none 0 0) ∧ _
   rw [if_neg e, hns]
   have : clAt (cs ++ [Cl.zero]) cs.length = Cl.zero := by simp [clAt, List.getD_eq_getElem?_getD]
   rw [this, show cs.length * 3 - cs.length * 3 = 0 by omega, show cs.length * 3 + 1 - cs.length * 3 = 1 by omega, show cs.length * 3 + 2 - cs.length * 3 = 2 by omega]
   exact ⟨rfl, rfl, rfl⟩
 ·rw [List.length_append, List.length_singleton] at hj
  by_cases e : j < cs.length
  ·obtain ⟨m1, m2, m3, m4⟩ := h5 j e
   have : clAt (cs ++ [Cl.zero]) j = clAt cs j := by simp [clAt, List.getD_eq_getElem?_getD, List.getElem?_append_left e]
   rw [this]
   simp only [if_pos e]
   refine ⟨m1.keep fun i hi => (k3 i (by omega) (by omega)).trans (hfr i (by omega)), ?_, by omega, fun k hk hne => ?_⟩
   ·rcases m2 with m2 | m2
    ·exact .inl m2
    ·exact .inr ⟨m2.1, by show _ ≠ s1.next + 1; omega⟩
   ·by_cases ek : k < cs.length
    ·simp only [if_pos ek]; exact m4 k ek hne
    ·simp only [if_neg ek]
     by_cases h0 : ow (vf j) = 0
     ·exact .inl h0
     ·exact .inr (by show _ ≠ 0; exact h0)
  ·simp only [if_neg e]
   obtain rfl : j = cs.length := by omega
   have : clAt (cs ++ [Cl.zero]) cs.length = Cl.zero := by simp [clAt, List.getD_eq_getElem?_getD]
   rw [this]
   exact ⟨(GroK.nil 1 s2).vl (l := []), .inl rfl, Nat.zero_le _, fun _ _ _ => .inl rfl⟩
end
end Go.Proofs.YtjomiadmminhfaaGreatDoor
end
section
set_option linter.unusedSimpArgs false
set_option linter.unusedVariables false
set_option maxRecDepth 10000
set_option linter.unusedSectionVars false
namespace Go.Proofs.YtjomiadmminhfaaGreatDoor
open Go.Am
attribute [local irreducible] callO wopK ropK popK opK grpsE listE sx Runs

theorem byte_at (s : ByteArray) (j : Nat) (h : j < s.size) : ∃ c, s.data.toList[j]? = some c ∧ s.data.toList.getD j 0 = c ∧ c.toNat < 256 := by
 have hl : j < s.data.toList.length := by rw [← size_list]; exact h
 exact ⟨s.data.toList[j], List.getElem?_eq_getElem hl, by rw [List.getD_eq_getElem?_getD, List.getElem?_eq_getElem hl, Option.getD_some], (s.data.toList[j]).toNat_lt⟩
theorem byte_no (s : ByteArray) (j : Nat) (h : s.size ≤ j) : s.data.toList[j]? = none := List.getElem?_eq_none (by rw [← size_list]; exact h)
theorem u8_eq {c : UInt8} {n : Nat} (h : (c.toNat : Int) = (n : Int)) : c = UInt8.ofNat n := by
 have : c.toNat = n := by omega
 rw [← this]; simp

def readA (s : ByteArray) : Int := if 1000 < s.size then 2 else if s.data.toList.all prn = true then 0 else 250

section
variable {st : St} {K : Value → St → Prop}

theorem kReadable (n : Nat) (s : ByteArray) (h : K (.int .i64 (readA s)) st) : callK (callO T0 orc fns 100000 (n + 1)) 48 [.string s] st K := by
 refine fn_runs (fn := g48) ?_ ?_ ?_
 ·rfl
 ·rfl
 unfold g48
 unfold readA at h
 by_cases hbig : 1000 < s.size
 ·rw [if_pos hbig] at h
  simp (disch := omega) only [↓sxA, ↓wk_store, sxB, sxP, simprocAttr]
  exact h
 rw [if_neg hbig] at h
 simp (disch := omega) only [↓sxA, ↓wk_store, sxB, sxP, simprocAttr]
 refine loop_rule [0, 8, 9] (fun vs st' => st' = st ∧ ∃ j : Nat, vs = [.string s, .int .i64 (s.size : Nat), .int .i64 j] ∧ j ≤ s.size ∧ (s.data.toList.take j).all prn = true) (fun vs _ => match lget vs 2 with
   | .int _ k => ((s.size : Int) - k).toNat
   | _ => 0) ?_ ?_ ?_
 ·rfl
 ·refine ⟨_, rfl, ⟨rfl, 0, rfl, Nat.zero_le _, rfl⟩, ?_⟩
  show ((s.size : Int) - 0).toNat < 100000
  omega
 ·rintro vs st' ⟨rfl, j, rfl, j1, j2⟩
  show sx _ _ _ _ _ [(0, _), (8, _), (9, _)] _ _ _ _
  by_cases hj : j < s.size
  ·obtain ⟨c, hc, hg, hb⟩ := byte_at s j hj
   have bad : prn c = false → s.data.toList.all prn = false := fun hp => by
    rw [List.all_eq_false]
    exact ⟨c, List.mem_of_getElem? hc, by rw [hp]; decide⟩
   have good : prn c = true → (s.data.toList.take (j + 1)).all prn = true := fun hp => by
    rw [List.take_add_one, hc]
    simp [List.all_append, j2, hp]
   simp (disch := omega) only [q_indexStr, Int.toNat_natCast, hg, ↓sxA, ↓wk_store, sxB, sxP, simprocAttr]
   refine iteI (fun c1 => ?_) (fun c1 => iteI (fun c2 => ?_) (fun c2 => ?_))
   ·rw [bad (by simp [prn]; omega)] at h; exact h
   ·rw [bad (by simp [prn]; omega)] at h; exact h
   ·refine ⟨_, rfl, ⟨j + 1, ?_, hj, good (by simp [prn]; omega)⟩, ?_⟩
    ·simp
    ·show ((s.size : Int) - ((j : Int) + 1)).toNat < ((s.size : Int) - j).toNat
     omega
  ·have e : s.data.toList.take j = s.data.toList := List.take_of_length_le (by rw [← size_list]; omega)
   rw [e] at j2
   rw [j2] at h
   simp (disch := omega) only [↓sxA, ↓wk_store, sxB, sxP, simprocAttr]
   exact h

theorem rk_put3 {s : St} {b g : Nat} {ro : Bool} {x y z : Value} (K : Value → Prop) : ropK (.loadN 3) [.pointer (some ⟨b, 0, none⟩)] (s.put b (some (.row [x, y, z] g ro))) K = K (.agg #[x, y, z]) := rk_loadAll (k := 3) (get_put_same _ _ _) rfl (by decide) K

/-- what the program's next gives -/
def wdVal (L : List UInt8) (p : Nat) (v : Value) (e : Int) : Prop := match nxt L p with
 | .fin => v = .agg #[.string .empty, .int .i64 0, .bool false] ∧ e = 0
 | .bad fr => (∃ s a, v = .agg #[.string s, .int .i64 a, .bool true]) ∧ e = -1
 | .wd s q fr to => v = .agg #[.string (bs s), .int .i64 (fr : Nat), .bool q] ∧ e = (to : Nat)

theorem kQuoted (n : Nat) (s : ByteArray) (p : Nat) (hp : p < s.size) (hs : s.size ≤ 1000000) (hr : s.data.toList.all prn = true) (h : K (quoVal (p + 1) (quoR s.data.toList (p + 1))) st) : callK (callO T0 orc fns 100000 n) 116 [.string s, .int .i64 (p : Nat)] st K := by
 rw [callO_none (by rfl)]
 have e : orc 116 [.string s, .int .i64 (p : Nat)] st = .ret (quoVal (p + 1) (quoR s.data.toList (p + 1)), st) := by
  rw [orc_eq (by decide)]
  simp [orc1, hp, hs, hr]
 exact (propext (callK_ret (K := K) e)).mpr h

theorem wdVal_fin {L : List UInt8} {p : Nat} (h : L[blk L p]? = none) : wdVal L p (.agg #[.string .empty, .int .i64 0, .bool false]) 0 := by
 have : nxt L p = .fin := by unfold nxt; rw [h]
 unfold wdVal
 rw [this]
 exact ⟨rfl, rfl⟩
theorem wdVal_eq {L : List UInt8} {p : Nat} (h : L[blk L p]? = some 61) : wdVal L p (.agg #[.string ⟨#[61]⟩, .int .i64 (blk L p : Nat), .bool false]) ((blk L p : Nat) + 1 : Int) := by
 have : nxt L p = .wd [61] false (blk L p) (blk L p + 1) := by unfold nxt; rw [h]; rfl
 unfold wdVal
 rw [this]
 exact ⟨rfl, by simp⟩
theorem wdVal_word {L : List UInt8} {p : Nat} {c : UInt8} (h : L[blk L p]? = some c) (h1 : c ≠ 61) (h2 : c ≠ 34) (hr : L.all prn = true) : wdVal L p (.agg #[.string (bs ((L.drop (blk L p)).take (pwE L (blk L p) - blk L p))), .int .i64 (blk L p : Nat), .bool false]) (pwE L (blk L p) : Nat) := by
 have hall : ((L.drop (blk L p)).take (pw (L.drop (blk L p)))).all prn = true := by
  rw [List.all_eq_true] at hr ⊢
  exact fun x hx => hr x (List.mem_of_mem_drop (List.mem_of_mem_take hx))
 have : nxt L p = .wd ((L.drop (blk L p)).take (pw (L.drop (blk L p)))) false (blk L p) (pwE L (blk L p)) := by
  unfold nxt
  rw [h]
  simp only
  rw [if_neg h1, if_neg h2, if_pos hall]
 unfold wdVal
 rw [this]
 refine ⟨?_, rfl⟩
 have e : pwE L (blk L p) - blk L p = pw (L.drop (blk L p)) := by unfold pwE; omega
 rw [e]
theorem wdVal_quo {L : List UInt8} {p : Nat} (h : L[blk L p]? = some 34) : (∀ x, quoR L (blk L p + 1) = some x → wdVal L p (.agg #[.string (bs x.1), .int .i64 (blk L p : Nat), .bool true]) ((blk L p + 1 + x.2 : Nat) : Int)) ∧ (quoR L (blk L p + 1) = none → ∀ s a, wdVal L p (.agg #[.string s, .int .i64 a, .bool true]) (-1)) := by
 refine ⟨fun x hx => ?_, fun hx s a => ?_⟩
 ·have : nxt L p = .wd x.1 true (blk L p) (blk L p + 1 + x.2) := by
   unfold nxt
   rw [h]
   simp only
   rw [if_neg (by decide), if_pos trivial]
   unfold quoR at hx
   rw [hx]
  unfold wdVal
  rw [this]
  exact ⟨rfl, rfl⟩
 ·have : nxt L p = .bad (blk L p) := by
   unfold nxt
   rw [h]
   simp only
   rw [if_neg (by decide), if_pos trivial]
   unfold quoR at hx
   rw [hx]
  unfold wdVal
  rw [this]
  exact ⟨⟨s, a, rfl⟩, rfl⟩

set_option maxHeartbeats 1000000 in
theorem kNext (n : Nat) (s : ByteArray) (hs : s.size ≤ 90000) (p : Nat) (hp : p ≤ s.size) (hr : s.data.toList.all prn = true) (h : ∀ v e st', wdVal s.data.toList p v e → Frm st st' → K (.tuple #[v, .int .i64 e]) st') : callK (callO T0 orc fns 100000 (n + 1)) 80 [.string s, .int .i64 (p : Nat)] st K := by
 refine fn_runs (fn := g80) ?_ ?_ ?_
 ·rfl
 ·rfl
 unfold g80
 have hsz := size_list s
 have F0 : Frm st (st.new (.row [.string .empty, .int .i64 0, .bool false] 0 false)) := Frm.new st _
 have hbx : (st.new (.row [.string .empty, .int .i64 0, .bool false] 0 false)).get st.next = some (.row [.string .empty, .int .i64 0, .bool false] 0 false) := get_new_same _ _
 simp (disch := omega) only [↓sxA, ↓wk_store, sxB, sxP, simprocAttr]
 generalize st.new (.row [.string .empty, .int .i64 0, .bool false] 0 false) = s1 at F0 hbx
 refine loop_rule [0, 1, 4] (fun vs st' => st' = s1 ∧ ∃ j : Nat, vs = [.string s, .int .i64 (j : Nat), .pointer (some ⟨st.next, 0, none⟩)] ∧ j ≤ s.size ∧ blk s.data.toList j = blk s.data.toList p) (fun vs _ => match lget vs 1 with
   | .int _ k => ((s.size : Int) - k).toNat
   | _ => 0) ?_ ?_ ?_
 ·rfl
 ·refine ⟨_, rfl, ⟨rfl, p, rfl, hp, rfl⟩, ?_⟩
  show ((s.size : Int) - (p : Int)).toNat < 100000
  omega
 ·rintro vs st' ⟨rfl, j, rfl, j1, j2⟩
  show sx _ _ _ _ _ [(0, _), (1, _), (4, _)] _ _ _ _
  by_cases hj : j < s.size
  ·obtain ⟨c, hc, hg, hb'⟩ := byte_at s j hj
   simp (disch := omega) only [q_indexStr, Int.toNat_natCast, hg, ↓sxA, ↓wk_store, sxB, sxP, simprocAttr]
   refine iteI (fun c1 => ?_) (fun c1 => ?_)
   ·refine ⟨_, rfl, ⟨j + 1, ?_, hj, ?_⟩, ?_⟩
    ·simp
    ·rw [← blk_hit (by rw [hc, u8_eq c1]; rfl), j2]
    ·show ((s.size : Int) - ((j : Int) + 1)).toNat < ((s.size : Int) - j).toNat
     omega
   ·have hbj : blk s.data.toList p = j := by rw [← j2, blk_stop (by rw [hc]; intro e; cases e; exact c1 rfl)]
    have hcb : s.data.toList[blk s.data.toList p]? = some c := by rw [hbj]; exact hc
    have hF : ∀ o, Frm st (st'.put st.next o) := fun o => F0.put _ (Nat.le_refl _) _
    refine iteI (fun c2 => ?_) (fun c2 => ?_)
    ·have e61 : c = 61 := u8_eq c2
     have := wdVal_eq (by rw [hcb, e61])
     rw [hbj] at this
     simp (disch := omega) only [hbx, ↓sxA, ↓wk_store, sxB, sxP, simprocAttr]
     rw [resP_k1]
     simp (disch := omega) only [↓rk_put3, ↓sxA, ↓wk_store, sxB, sxP, simprocAttr]
     exact h _ _ _ this (hF _)
    ·have n61 : c ≠ 61 := fun e => c2 (by rw [e]; rfl)
     refine iteI (fun c3 => ?_) (fun c3 => ?_)
     ·have e34 : c = 34 := u8_eq c3
      obtain ⟨w1, w2⟩ := wdVal_quo (p := p) (by rw [hcb, e34])
      rw [hbj] at w1 w2
      refine kQuoted n s j hj (by omega) hr ?_
      cases hq : quoR s.data.toList (j + 1) with
      | none =>
       unfold quoVal
       simp (disch := omega) only [hbx, ↓sxA, ↓wk_store, sxB, sxP, simprocAttr]
       rw [resP_k1]
       simp (disch := omega) only [↓rk_put3, ↓sxA, ↓wk_store, sxB, sxP, simprocAttr]
       exact h _ _ _ (w2 hq _ _) (hF _)
      | some x =>
       unfold quoVal
       simp (disch := omega) only [hbx, ↓sxA, ↓wk_store, sxB, sxP, simprocAttr]
       rw [resP_k1]
       simp (disch := omega) only [↓rk_put3, ↓sxA, ↓wk_store, sxB, sxP, simprocAttr]
       exact h _ _ _ (w1 x hq) (hF _)
     ·have n34 : c ≠ 34 := fun e => c3 (by rw [e]; rfl)
      have hw := wdVal_word (p := p) hcb n61 n34 hr
      rw [hbj] at hw
      simp (disch := omega) only [↓sxA, ↓wk_store, sxB, sxP, simprocAttr]
      refine loop_rule [0, 1, 4, 8] (fun vs s2 => s2 = st' ∧ ∃ i : Nat, vs = [.string s, .int .i64 (j : Nat), .pointer (some ⟨st.next, 0, none⟩), .int .i64 (i : Nat)] ∧ j ≤ i ∧ i ≤ s.size ∧ pwE s.data.toList i = pwE s.data.toList j) (fun vs _ => match lget vs 3 with
        | .int _ k => ((s.size : Int) - k).toNat
        | _ => 0) ?_ ?_ ?_
      ·rfl
      ·refine ⟨_, rfl, ⟨rfl, j, rfl, Nat.le_refl _, by omega, rfl⟩, ?_⟩
       show ((s.size : Int) - (j : Int)).toNat < 100000
       omega
      ·rintro vs s2 ⟨rfl, i, rfl, i1, i2, i3⟩
       show sx _ _ _ _ _ [(0, _), (1, _), (4, _), (8, _)] _ _ _ _
       have fin : pwE s.data.toList j = i → K (.tuple #[.agg #[.string (s.extract j i), .int .i64 (j : Nat), .bool false], .int .i64 (i : Nat)]) (s2.put st.next (some (.row [.string (s.extract j i), .int .i64 (j : Nat), .bool false] 0 false))) := fun e => by
        rw [e] at hw
        rw [extract_bs]
        exact h _ _ _ hw (hF _)
       by_cases hi : i < s.size
       ·obtain ⟨d, hd, hgd, hbd⟩ := byte_at s i hi
        simp (disch := omega) only [q_indexStr, Int.toNat_natCast, hgd, ↓sxA, ↓wk_store, sxB, sxP, simprocAttr]
        refine iteI (fun c4 => ?_) (fun c4 => ?_)
        ·have e32 : d = 32 := u8_eq c4
         simp (disch := omega) only [hbx, q_slBoth, Int.toNat_natCast, ↓sxA, ↓wk_store, sxB, sxP, simprocAttr]
         rw [resP_k1]
         simp (disch := omega) only [↓rk_put3, ↓sxA, ↓wk_store, sxB, sxP, simprocAttr]
         exact fin (by rw [← i3, pwE_stop (fun x hx => by rw [hd] at hx; cases hx; exact .inl e32)])
        ·have n32 : d ≠ 32 := fun e => c4 (by rw [e]; rfl)
         refine iteI (fun c5 => ?_) (fun c5 => ?_)
         ·have e61 : d = 61 := u8_eq c5
          simp (disch := omega) only [hbx, q_slBoth, Int.toNat_natCast, ↓sxA, ↓wk_store, sxB, sxP, simprocAttr]
          rw [resP_k1]
          simp (disch := omega) only [↓rk_put3, ↓sxA, ↓wk_store, sxB, sxP, simprocAttr]
          exact fin (by rw [← i3, pwE_stop (fun x hx => by rw [hd] at hx; cases hx; exact .inr e61)])
         ·have m61 : d ≠ 61 := fun e => c5 (by rw [e]; rfl)
          refine ⟨_, rfl, ⟨i + 1, ?_, by omega, hi, ?_⟩, ?_⟩
          ·simp
          ·rw [← pwE_hit hd n32 m61, i3]
          ·show ((s.size : Int) - ((i : Int) + 1)).toNat < ((s.size : Int) - i).toNat
           omega
       ·simp (disch := omega) only [hbx, q_slBoth, Int.toNat_natCast, ↓sxA, ↓wk_store, sxB, sxP, simprocAttr]
        rw [resP_k1]
        simp (disch := omega) only [↓rk_put3, ↓sxA, ↓wk_store, sxB, sxP, simprocAttr]
        exact fin (by rw [← i3, pwE_stop (fun x hx => by rw [byte_no s i (by omega)] at hx; cases hx)])
  ·have hbj : blk s.data.toList p = j := by rw [← j2, blk_stop (by rw [byte_no s j (by omega)]; decide)]
   have := wdVal_fin (L := s.data.toList) (p := p) (by rw [hbj]; exact byte_no s j (by omega))
   have hF : ∀ o, Frm st (st'.put st.next o) := fun o => F0.put _ (Nat.le_refl _) _
   simp (disch := omega) only [hbx, ↓sxA, ↓wk_store, sxB, sxP, simprocAttr]
   rw [resP_k1]
   simp (disch := omega) only [↓rk_put3, ↓sxA, ↓wk_store, sxB, sxP, simprocAttr]
   exact h _ _ _ this (hF _)
end
end Go.Proofs.YtjomiadmminhfaaGreatDoor
end
section
set_option linter.unusedSimpArgs false
set_option linter.unusedVariables false
set_option maxRecDepth 10000
set_option linter.unusedSectionVars false
namespace Go.Proofs.YtjomiadmminhfaaGreatDoor
open Go.Am
attribute [local irreducible] callO wopK ropK popK opK grpsE listE sx Runs

def nm0 (x : IM) : ByteArray := x.names.headD .empty

/-- the fitter: where its parts are -/
structure FtR (s0 st : St) (bf : Nat) (lv : Value) (s : ByteArray) (l : List IM) (p : Nat) (cs : List Cl) : Prop where
 frm : Frm s0 st
 bf1 : s0.next ≤ bf
 bf2 : bf < st.next
 items : ItR 1 s0 lv l
 len : cs.length = l.length
 body : ∃ ov bn g, st.get bf = some (.row [lv, .string s, .int .i64 (p : Nat), ov, .slice (some ⟨bn, 0, none⟩) l.length l.length] 0 false) ∧ AgR (fun n => s0.next + 1 ≤ n ∧ n ≠ bf + 1 ∧ n ≠ bn + 1) true st ov (l.map nm0) cs ∧
  st.get bn = some (.row (cs.map fun c => .bool c.nm) g false) ∧ s0.next ≤ bn ∧ bn < st.next ∧ bn ≠ bf

section
variable {s0 st st' : St} {bf p : Nat} {lv : Value} {s : ByteArray} {l : List IM} {cs : List Cl}
theorem FtR.keep (h : FtR s0 st bf lv s l p cs) (k : Frm st st') : FtR s0 st' bf lv s l p cs := by
 obtain ⟨ov, bn, g, b1, b2, b3, b4, b5, b6⟩ := h.body
 refine ⟨h.frm.trans k, h.bf1, Nat.lt_of_lt_of_le h.bf2 k.nx, h.items, h.len, ov, bn, g, (k.old _ h.bf2).trans b1, b2.keep k.nx fun i _ hi => k.old i hi, (k.old _ b5).trans b3, b4, Nat.lt_of_lt_of_le b5 k.nx, b6⟩
theorem FtR.its (h : FtR s0 st bf lv s l p cs) : ItR 1 st lv l := h.items.keep h.frm.nx fun i _ hi => h.frm.old i hi
theorem FtR.box (h : FtR s0 st bf lv s l p cs) : ∃ ov nv, st.get bf = some (.row [lv, .string s, .int .i64 (p : Nat), ov, nv] 0 false) := by
 obtain ⟨ov, bn, g, b1, _⟩ := h.body
 exact ⟨_, _, b1⟩
end

section
variable {st : St} {v : Value} {K : Value → St → Prop} {xs : List ByteArray} {x : ByteArray}

end
end Go.Proofs.YtjomiadmminhfaaGreatDoor
end
section
set_option linter.unusedSimpArgs false
set_option linter.unusedVariables false
set_option maxRecDepth 10000
set_option linter.unusedSectionVars false
namespace Go.Proofs.YtjomiadmminhfaaGreatDoor
open Go.Am
attribute [local irreducible] callO wopK ropK popK opK grpsE listE sx Runs

theorem AgR.okv {ok : Nat → Prop} {g : Bool} {st : St} {v : Value} {ns : List ByteArray} {cs : List Cl} (h : AgR ok g st v ns cs) : (ow v = 0 ∨ ok (ow v)) ∧ ow v ≤ st.next := by
 obtain ⟨es, vf, h1, h2, h3, _⟩ := h
 exact ⟨h2, h3⟩

theorem GroK.ceq {esz n : Nat} {st : St} {v : Value} {cs : List Value} (h : GroK esz st v cs n) : cellEq v v = true := by
 rcases h with ⟨h1, _⟩ | ⟨b, cap, h1, _⟩ <;> subst h1 <;> exact one_eqSlice _ _ _
theorem AgR.ceq {ok : Nat → Prop} {g : Bool} {st : St} {v : Value} {ns : List ByteArray} {cs : List Cl} (h : AgR ok g st v ns cs) : cellEq v v = true := by
 obtain ⟨es, vf, h1, _⟩ := h
 exact h1.ceq
section
variable {st : St} {K : Value → St → Prop}
theorem trimE_le (l : List UInt8) : (trimE l).length ≤ l.length := by
 unfold trimE
 rw [List.length_reverse]
 have := (List.dropWhile_sublist (· == (32 : UInt8)) (l := l.reverse)).length_le
 rw [List.length_reverse] at this
 exact this

end
end Go.Proofs.YtjomiadmminhfaaGreatDoor
end
section
set_option linter.unusedSimpArgs false
set_option linter.unusedVariables false
set_option maxRecDepth 10000
set_option linter.unusedSectionVars false
namespace Go.Proofs.YtjomiadmminhfaaGreatDoor
open Go.Am
attribute [local irreducible] callO wopK ropK popK opK grpsE listE sx Runs

def Cl.nam (c : Cl) : Cl := ⟨c.vals, c.set, true⟩
def Cl.put (c : Cl) : Cl := ⟨c.vals, true, c.nm⟩

theorem map_upd (cs : List Cl) (k : Nat) (f : Cl → Cl) (hk : k < cs.length) : (upd' cs k f).map (fun c => Value.bool c.nm) = (cs.map fun c => Value.bool c.nm).set k (.bool (f (clAt cs k)).nm) := by
 unfold upd'
 rw [List.map_set]
theorem map_at (cs : List Cl) (k : Nat) (hk : k < cs.length) : (cs.map fun c => Value.bool c.nm)[k]? = some (.bool (clAt cs k).nm) := by
 rw [List.getElem?_map, List.getElem?_eq_getElem hk]
 simp [clAt, List.getD_eq_getElem?_getD, List.getElem?_eq_getElem hk]

section
variable {s0 st : St} {bf p k : Nat} {lv : Value} {s : ByteArray} {l : List IM} {cs : List Cl}
/-- what may be read of the fitter, and how an item is named, and set -/
theorem FtR.open (hF : FtR s0 st bf lv s l p cs) (hk : k < l.length) : ∃ ov bn b s1 s2, st.get bf = some (.row [lv, .string s, .int .i64 (p : Nat), ov, .slice (some ⟨bn, 0, none⟩) l.length l.length] 0 false) ∧
  (∀ K : Value → Prop, popK (.indexAddr 1) [.slice (some ⟨bn, 0, none⟩) l.length l.length, .int .i64 (k : Int)] K = K (.pointer (some ⟨bn, k, none⟩))) ∧ (∀ K : Value → Prop, ropK .load1 [.pointer (some ⟨bn, k, none⟩)] st K = K (.bool (clAt cs k).nm)) ∧
  (∀ K : Value → Prop, popK (.indexAddr 3) [ov, .int .i64 (k : Int)] K = K (.pointer (some ⟨b, k * 3, none⟩))) ∧ (∀ K : Value → Prop, ropK .load1 [.pointer (some ⟨b, k * 3 + 2, none⟩)] st K = K (.bool (clAt cs k).set)) ∧
  (∀ W : Value → St → Prop, wopK (.store 1) [.pointer (some ⟨bn, k, none⟩), .bool true] st W = W undef s1) ∧ FtR s0 s1 bf lv s l p (upd' cs k Cl.nam) ∧ s1.next = st.next ∧ (∀ i, i ≠ bn → s1.get i = st.get i) ∧ s0.next ≤ bn ∧ bn < st.next ∧ bn ≠ bf ∧
  (∀ W : Value → St → Prop, wopK (.store 1) [.pointer (some ⟨b, k * 3 + 2, none⟩), .bool true] st W = W undef s2) ∧ FtR s0 s2 bf lv s l p (upd' cs k Cl.put) := by
 obtain ⟨ov, bn, g, q1, q2, q3, q4, q5, q6⟩ := hF.body
 have hcl := hF.len
 obtain ⟨b, vv, o1, o2, o3, o4, o5, o6, o7, o8, o9⟩ := q2.at (j := k) (by omega)
 obtain ⟨s2, z1, z2, z3, z4⟩ := q2.put_set (j := k) (by omega) Cl.put (fun c => ⟨rfl, rfl⟩) o1
 obtain ⟨okv, onx⟩ := q2.okv
 have okb : s0.next + 1 ≤ b + 1 ∧ b + 1 ≠ bf + 1 ∧ b + 1 ≠ bn + 1 := by
  rcases okv with e | e
  ·omega
  ·rw [o1] at e; exact e
 have hl : k < (cs.map fun c => Value.bool c.nm).length := by rw [List.length_map]; omega
 have hF2 := hF.bf2
 have hF1 := hF.bf1
 have hfx := hF.frm.nx
 refine ⟨ov, bn, b, st.put bn (some (.row (lputs (cs.map fun c => Value.bool c.nm) k [.bool true]) g false)), s2, q1, fun K => ?_, fun K => ?_, o2, o6, fun W => ?_, ?_, rfl, fun i hi => get_put_ne _ _ _ _ (Ne.symm hi), q4, q5, q6, z1, ?_⟩
 ·rw [pk_indexAddr]
  have e : (0 : Nat) + (k : Int).toNat * 1 = k := by omega
  rw [e]
  exact propext ⟨fun h => h.2, fun h => ⟨⟨by omega, by omega⟩, h⟩⟩
 ·rw [rk_load1, q3]
  simp only [getK, rowK]
  exact nthK_at (map_at cs k (by omega)) K
 ·rw [wk_store, q3]
  simp only [getK, rowK]
  exact propext ⟨fun h => h.2.2, fun h => ⟨rfl, ⟨by first | trivial | rfl, by omega, by rfl⟩, h⟩⟩
 ·refine ⟨hF.frm.put _ q4 _, hF1, hF2, hF.items, by rw [upd_len]; exact hcl, ov, bn, g, (get_put_ne _ _ _ _ q6).trans q1, ?_, ?_, q4, q5, q6⟩
  ·have h := q2.keep (st' := st.put bn (some (.row (lputs (cs.map fun c => Value.bool c.nm) k [.bool true]) g false))) (Nat.le_refl _) fun i hi _ => get_put_ne _ _ _ _ (by omega)
   obtain ⟨es, vf, h1, h2, h3, h4, h5⟩ := h
   refine ⟨es, vf, by rw [upd_len]; exact h1, h2, h3, fun j hj => ?_, fun j hj => ?_⟩
   ·rw [upd_len] at hj
    obtain ⟨a1, a2, a3⟩ := h4 j hj
    refine ⟨a1, a2, ?_⟩
    by_cases e : k = j
    ·subst e; rw [upd_same _ _ _ hj]; exact a3
    ·rw [upd_ne _ _ _ _ e]; exact a3
   ·rw [upd_len] at hj ⊢
    have e : (clAt (upd' cs k Cl.nam) j).vals = (clAt cs j).vals := by
     by_cases e : k = j
     ·subst e; rw [upd_same _ _ _ hj]; rfl
     ·rw [upd_ne _ _ _ _ e]
    rw [e]
    exact h5 j hj
  ·rw [map_upd _ _ _ (by omega), get_put_same]
   congr 2
   refine List.ext_getElem? fun i => ?_
   rw [lput1_get _ _ _ hl]
   by_cases e : i = k
   ·subst e; rw [if_pos rfl, List.getElem?_set_self hl]; rfl
   ·rw [if_neg e, List.getElem?_set_ne (Ne.symm e)]
 ·have hov : ∀ i, i ≠ b → s2.get i = st.get i := z4
  refine ⟨⟨by omega, fun i hi => (hov i (by omega)).trans (hF.frm.old i hi)⟩, hF1, by omega, hF.items, by rw [upd_len]; exact hcl, ov, bn, g, (hov _ (by omega)).trans q1, z2, ?_, q4, by omega, q6⟩
  rw [hov _ (by omega), q3, map_upd _ _ _ (by omega)]
  congr 2
  refine List.ext_getElem? fun i => ?_
  by_cases e : k = i
  ·subst e; rw [List.getElem?_set_self hl, map_at cs k (by omega)]; rfl
  ·rw [List.getElem?_set_ne e]
end

end Go.Proofs.YtjomiadmminhfaaGreatDoor
end
section
set_option linter.unusedSimpArgs false
set_option linter.unusedVariables false
set_option maxRecDepth 10000
set_option linter.unusedSectionVars false
namespace Go.Proofs.YtjomiadmminhfaaGreatDoor
open Go.Am
attribute [local irreducible] callO wopK ropK popK opK grpsE listE sx Runs

section
variable {st : St} {K : Value → St → Prop}

theorem quo_len : ∀ (l : List UInt8) (s : List UInt8) (k : Nat), quo l = some (s, k) → s.length ≤ l.length
 | [], s, k, h => by simp [quo] at h
 | [c], s, k, h => by
  simp only [quo] at h
  split at h
  ·cases h; simp
  ·cases h
 | c :: d :: r, s, k, h => by
  simp only [quo] at h
  split at h
  ·split at h
   ·cases h; simp
   ·cases h
  ·split at h
   ·cases h
   ·split at h
    ·simp only [Option.map_eq_some_iff] at h
     obtain ⟨⟨s', k'⟩, h1, h2⟩ := h
     cases h2
     have := quo_len r s' k' h1
     simp; omega
    ·split at h
     ·simp only [Option.map_eq_some_iff] at h
      obtain ⟨⟨s', k'⟩, h1, h2⟩ := h
      cases h2
      have := quo_len r s' k' h1
      simp; omega
     ·simp only [Option.map_eq_some_iff] at h
      obtain ⟨⟨s', k'⟩, h1, h2⟩ := h
      cases h2
      have := quo_len (d :: r) s' k' h1
      simp at this ⊢; omega
theorem nxt_len {L : List UInt8} {p : Nat} {w : List UInt8} {q : Bool} {fr to : Nat} (h : nxt L p = .wd w q fr to) : w.length ≤ L.length + 1 := by
 unfold nxt at h
 split at h
 ·cases h
 ·split at h
  ·cases h; simp
  ·split at h
   ·split at h
    ·rename_i x hx
     cases h
     have := quo_len _ x.1 x.2 hx
     rw [List.length_drop] at this
     omega
    ·cases h
   ·split at h
    ·cases h
     rw [List.length_take, List.length_drop]
     omega
    ·cases h
end
end Go.Proofs.YtjomiadmminhfaaGreatDoor
end
section
set_option linter.unusedSimpArgs false
set_option linter.unusedVariables false
set_option maxRecDepth 10000
set_option linter.unusedSectionVars false
namespace Go.Proofs.YtjomiadmminhfaaGreatDoor
open Go.Am
attribute [local irreducible] callO wopK ropK popK opK grpsE listE sx Runs

theorem one_cells {v : Value} (h : oneCell v = true) : cellsOf v = [v] := by
 cases v <;> first | rfl | (simp [oneCell] at h)
theorem AgR.one {ok : Nat → Prop} {g : Bool} {st : St} {v : Value} {ns : List ByteArray} {cs : List Cl} (h : AgR ok g st v ns cs) : oneCell v = true := by
 obtain ⟨es, vf, h1, _⟩ := h
 exact h1.one
theorem ItR.one {lo : Nat} {st : St} {v : Value} {l : List IM} (h : ItR lo st v l) : oneCell v = true := by
 obtain ⟨nvs, h1, h2, _⟩ := h
 exact h2.one
section
variable {st : St} {K : Value → St → Prop}

end
end Go.Proofs.YtjomiadmminhfaaGreatDoor
end
section
set_option linter.unusedSimpArgs false
set_option linter.unusedVariables false
set_option maxRecDepth 10000
set_option linter.unusedSectionVars false
namespace Go.Proofs.YtjomiadmminhfaaGreatDoor
open Go.Am
attribute [local irreducible] callO wopK ropK popK opK grpsE listE sx Runs

section
variable {st : St} {K : Value → St → Prop}

theorem Cel.ceq {v : Value} {cs : List Value} (h : Cel st v cs) : cellEq v v = true := by
 rcases h with ⟨h1, _⟩ | ⟨b, o, cap, xs, g, ro, h1, _⟩ | ⟨n, h1, _⟩ <;> subst h1 <;> exact one_eqSlice _ _ _

end
end Go.Proofs.YtjomiadmminhfaaGreatDoor
end
section
set_option linter.unusedSimpArgs false
set_option linter.unusedVariables false
set_option maxRecDepth 10000
set_option linter.unusedSectionVars false
namespace Go.Proofs.YtjomiadmminhfaaGreatDoor
open Go.Am

section
variable {L : List UInt8} {i : Nat} {c d : UInt8}
end

attribute [local irreducible] callO wopK ropK popK opK grpsE listE sx Runs

section
variable {st : St} {K : Value → St → Prop}

end
end Go.Proofs.YtjomiadmminhfaaGreatDoor
end
