/-
  Lists of arguments on the heap.
  The program's small functions on lines: readable, blank, next, isSign.
  The program's find and free.
  The program's give and rest.
  The program's name: what stands behind an item's name.
  The program's name, walked.
  The program's Fit.
  The chapter's small functions: lower, known, rest, open, Number.
  The chapter's next.
-/
import Derived.Test.YtjomiadmminhfaaGreatDoorSSplClaimPart19
import Derived.Test.YtjomiadmminhfaaGreatDoorSSplClaimPart20
section
set_option linter.unusedSimpArgs false
set_option linter.unusedVariables false
set_option maxRecDepth 10000
set_option linter.unusedSectionVars false
namespace Go.Proofs.YtjomiadmminhfaaGreatDoor
open Go.Am

/-- the values of an argument -/
def VlR (g : Bool) (st : St) (v : Value) (l : List ByteArray) : Prop := Cel st v (l.map Value.string) ∧ oneCell v = true ∧ (g = true → GroK 1 st v (l.map Value.string) l.length)
theorem VlR.keep {g : Bool} {st st' : St} {v : Value} {l : List ByteArray} (h : VlR g st v l) (hb : ∀ i, i + 1 = ow v → st'.get i = st.get i) : VlR g st' v l := ⟨h.1.keep hb, h.2.1, fun e => (h.2.2 e).keep hb⟩
theorem GroK.one {esz n : Nat} {st : St} {v : Value} {cs : List Value} (h : GroK esz st v cs n) : oneCell v = true := by
 rcases h with ⟨h1, _⟩ | ⟨b, cap, h1, _⟩ <;> subst h1 <;> rfl
theorem GroK.vl {g : Bool} {st : St} {v : Value} {l : List ByteArray} (h : GroK 1 st v (l.map Value.string) l.length) : VlR g st v l := ⟨h.cel.1, h.one, fun _ => h⟩
/-- a list of arguments: its cells, and where each one's values are -/
def AgR (ok : Nat → Prop) (g : Bool) (st : St) (v : Value) (ns : List ByteArray) (cs : List Cl) : Prop :=
 ∃ (es : List Value) (vf : Nat → Value), GroK 3 st v es cs.length ∧ (ow v = 0 ∨ ok (ow v)) ∧ ow v ≤ st.next ∧
  (∀ j, j < cs.length → es[j * 3]? = some (.string (ns.getD j .empty)) ∧ es[j * 3 + 1]? = some (vf j) ∧ es[j * 3 + 2]? = some (.bool (clAt cs j).set)) ∧
  ∀ j, j < cs.length → VlR g st (vf j) (clAt cs j).vals ∧ (ow (vf j) = 0 ∨ (ok (ow (vf j)) ∧ ow (vf j) ≠ ow v)) ∧ ow (vf j) ≤ st.next ∧ ∀ k, k < cs.length → k ≠ j → ow (vf j) = 0 ∨ ow (vf j) ≠ ow (vf k)

section
variable {ok ok' : Nat → Prop} {g : Bool} {st st' : St} {v : Value} {ns : List ByteArray} {cs : List Cl}

theorem AgR.nil : AgR ok g st (.slice none 0 0) ns [] := ⟨[], fun _ => undef, GroK.nil _ _, .inl rfl, Nat.zero_le _, fun j h => by simp at h, fun j h => by simp at h⟩
theorem AgR.keep (h : AgR ok g st v ns cs) (hn : st.next ≤ st'.next) (hf : ∀ i, ok (i + 1) → i < st.next → st'.get i = st.get i) : AgR ok g st' v ns cs := by
 obtain ⟨es, vf, h1, h2, h3, h4, h5⟩ := h
 refine ⟨es, vf, h1.keep fun i hi => ?_, h2, by omega, h4, fun j hj => ?_⟩
 ·rcases h2 with h2 | h2
  ·omega
  ·exact hf i (by rw [hi]; exact h2) (by omega)
 ·obtain ⟨k1, k2, k3, k4⟩ := h5 j hj
  refine ⟨k1.keep fun i hi => ?_, k2, by omega, k4⟩
  rcases k2 with k2 | k2
  ·omega
  ·exact hf i (by rw [hi]; exact k2.1) (by omega)
theorem AgR.len (h : AgR ok g st v ns cs) (K : Value → Prop) : popK .lenSl [v] K = K (.int .i64 (cs.length : Nat)) := by
 obtain ⟨es, vf, h1, _⟩ := h
 rcases h1 with ⟨q1, q2, q3⟩ | ⟨b, cap, q1, _⟩
 ·rw [q1, q3]; rfl
 ·rw [q1, pk_lenSl]

theorem lput1_get (es : List Value) (o : Nat) (x : Value) (h : o < es.length) (i : Nat) : (lputs es o [x])[i]? = if i = o then some x else es[i]? := by
 rw [lputs_get es [x] o i (by simp; omega)]
 by_cases e : i = o
 ·subst e; simp
 ·rw [if_neg e]
  by_cases h1 : i < o
  ·rw [if_pos h1]
  ·rw [if_neg h1, if_neg (by simp; omega)]
theorem lput1_len (es : List Value) (o : Nat) (x : Value) (h : o < es.length) : (lputs es o [x]).length = es.length := lputs_length es [x] o (by simp; omega)

/-- an argument of the list -/
theorem AgR.at (h : AgR ok g st v ns cs) {j : Nat} (hj : j < cs.length) : ∃ (b : Nat) (vv : Value), ow v = b + 1 ∧ (∀ K : Value → Prop, popK (.indexAddr 3) [v, .int .i64 (j : Int)] K = K (.pointer (some ⟨b, j * 3, none⟩))) ∧
  (∀ K : Value → Prop, ropK (.loadN 3) [.pointer (some ⟨b, j * 3, none⟩)] st K = K (.agg #[.string (ns.getD j .empty), vv, .bool (clAt cs j).set])) ∧
  (∀ K : Value → Prop, ropK .load1 [.pointer (some ⟨b, j * 3, none⟩)] st K = K (.string (ns.getD j .empty))) ∧ (∀ K : Value → Prop, ropK .load1 [.pointer (some ⟨b, j * 3 + 1, none⟩)] st K = K vv) ∧ (∀ K : Value → Prop, ropK .load1 [.pointer (some ⟨b, j * 3 + 2, none⟩)] st K = K (.bool (clAt cs j).set)) ∧
  VlR g st vv (clAt cs j).vals ∧ (ow vv = 0 ∨ (ok (ow vv) ∧ ow vv ≠ ow v)) ∧ ow vv ≤ st.next := by
 obtain ⟨es, vf, h1, h2, h3, h4, h5⟩ := h
 obtain ⟨a1, a2, a3⟩ := h4 j hj
 obtain ⟨k1, k2, k3, k4⟩ := h5 j hj
 rcases h1 with ⟨q1, q2, q3⟩ | ⟨b, cap, q1, q2, q3, q4⟩
 ·omega
 have ld : ∀ (o : Nat) (x : Value), es[o]? = some x → ∀ K : Value → Prop, ropK .load1 [.pointer (some ⟨b, o, none⟩)] st K = K x := fun o x hx K => by
  rw [rk_load1, q3]
  simp only [getK, rowK]
  exact nthK_at hx K
 refine ⟨b, vf j, by rw [q1]; rfl, fun K => ?_, fun K => ?_, ld _ _ a1, ld _ _ a2, ld _ _ a3, k1, k2, k3⟩
 ·rw [q1, pk_indexAddr]
  have e : (0 : Nat) + (j : Int).toNat * 3 = j * 3 := by omega
  rw [e]
  exact propext ⟨fun h => h.2, fun h => ⟨⟨by omega, by omega⟩, h⟩⟩
 ·refine rk_loadK q3 (k := 3) (xs := [.string (ns.getD j .empty), vf j, .bool (clAt cs j).set]) ?_ rfl (by decide) K
  have hl : ((es.drop (j * 3)).take 3).length = 3 := by rw [List.length_take, List.length_drop]; omega
  refine List.ext_getElem? fun i => ?_
  by_cases hi : i < 3
  ·rw [List.getElem?_take_of_lt hi, List.getElem?_drop]
   match i, hi with
   | 0, _ => exact a1
   | 1, _ => exact a2
   | 2, _ => exact a3
  ·rw [List.getElem?_eq_none (by omega), List.getElem?_eq_none (by simp; omega)]

/-- an argument is set -/
theorem AgR.put_set (h : AgR ok g st v ns cs) {j : Nat} (hj : j < cs.length) (f : Cl → Cl) (hf : ∀ c, (f c).vals = c.vals ∧ (f c).set = true) {b : Nat} (hb : ow v = b + 1) : ∃ s', (∀ W : Value → St → Prop, wopK (.store 1) [.pointer (some ⟨b, j * 3 + 2, none⟩), .bool true] st W = W undef s') ∧ AgR ok g s' v ns (upd' cs j f) ∧ s'.next = st.next ∧ ∀ i, i ≠ b → s'.get i = st.get i := by
 obtain ⟨es, vf, h1, h2, h3, h4, h5⟩ := h
 rcases h1 with ⟨q1, q2, q3⟩ | ⟨b', cap, q1, q2, q3, q4⟩
 ·omega
 obtain rfl : b' = b := by subst q1; simpa [ow] using hb
 have hl : j * 3 + 2 < es.length := by omega
 refine ⟨st.put b' (some (.row (lputs es (j * 3 + 2) [.bool true]) 3 false)), fun W => ?_, ?_, rfl, fun i hi => get_put_ne _ _ _ _ (Ne.symm hi)⟩
 ·rw [wk_store, q3]
  simp only [getK, rowK]
  exact propext ⟨fun h => h.2.2, fun h => ⟨rfl, ⟨by first | trivial | rfl, by omega, by rfl⟩, h⟩⟩
 ·refine ⟨_, vf, .inr ⟨b', cap, by rw [upd_len]; exact q1, by rw [upd_len]; exact q2, get_put_same _ _ _, by rw [lput1_len _ _ _ hl, upd_len]; exact q4⟩, h2, h3, fun i hi => ?_, fun i hi => ?_⟩
  ·rw [upd_len] at hi
   obtain ⟨a1, a2, a3⟩ := h4 i hi
   rw [lput1_get _ _ _ hl, lput1_get _ _ _ hl, lput1_get _ _ _ hl, if_neg (by omega), if_neg (by omega)]
   refine ⟨a1, a2, ?_⟩
   by_cases e : i = j
   ·subst e; rw [if_pos rfl, upd_same _ _ _ hi, (hf _).2]
   ·rw [if_neg (by omega), upd_ne _ _ _ _ (Ne.symm e)]; exact a3
  ·rw [upd_len] at hi ⊢
   obtain ⟨k1, k2, k3, k4⟩ := h5 i hi
   have e : (clAt (upd' cs j f) i).vals = (clAt cs i).vals := by
    by_cases e : i = j
    ·subst e; rw [upd_same _ _ _ hi, (hf _).1]
    ·rw [upd_ne _ _ _ _ (Ne.symm e)]
   rw [e]
   refine ⟨k1.keep fun x hx => get_put_ne _ _ _ _ fun e => ?_, k2, k3, k4⟩
   subst e
   omega

/-- an argument gets other values, which lie in a new row -/
theorem AgR.put_vals {g' : Bool} {s1 : St} {vv vv0 : Value} {l : List ByteArray} (h : AgR ok g st v ns cs) {j : Nat} (hj : j < cs.length) (f : Cl → Cl) (hf : ∀ c, (f c).vals = l ∧ (f c).set = c.set) {b : Nat} (hb : ow v = b + 1) (hg : g' = true → g = true)
  (hn : st.next ≤ s1.next) (hold : ∀ K : Value → Prop, ropK .load1 [.pointer (some ⟨b, j * 3 + 1, none⟩)] st K = K vv0) (hfr : ∀ i, i + 1 ≠ ow vv0 → i < st.next → s1.get i = st.get i) (hv : VlR g' s1 vv l) (hok : ok (ow vv)) (h0 : st.next < ow vv) (h1 : ow vv ≤ s1.next) :
  ∃ s', (∀ W : Value → St → Prop, wopK (.store 1) [.pointer (some ⟨b, j * 3 + 1, none⟩), vv] s1 W = W undef s') ∧ AgR ok g' s' v ns (upd' cs j f) ∧ s'.next = s1.next ∧ ∀ i, i ≠ b → s'.get i = s1.get i := by
 obtain ⟨es, vf, h1', h2, h3, h4, h5⟩ := h
 rcases h1' with ⟨q1, q2, q3⟩ | ⟨b', cap, q1, q2, q3, q4⟩
 ·omega
 obtain rfl : b' = b := by subst q1; simpa [ow] using hb
 obtain ⟨a1, a2, a3⟩ := h4 j hj
 obtain ⟨k1, k2, k3, k4⟩ := h5 j hj
 have hokv : ok (b' + 1) := by
  rcases h2 with h2 | h2
  ·omega
  ·rw [← hb]; exact h2
 have hvv : vf j = vv0 := by
  have := hold (· = vv0)
  rw [rk_load1, q3] at this
  simp only [getK, rowK] at this
  rw [nthK_at a2] at this
  exact this.mpr trivial
 have keepIt : ∀ i, ok (i + 1) → i < st.next → i + 1 ≠ ow (vf j) → s1.get i = st.get i := fun i hi hl hne => hfr i (by rw [← hvv]; exact hne) hl
 have hb1 : s1.get b' = some (.row es 3 false) := by
  rw [keepIt b' hokv (by omega) (by omega)]; exact q3
 have hl : j * 3 + 1 < es.length := by omega
 have hone : cellsOf vv = [vv] := by
  have := hv.2.1
  cases vv <;> first | rfl | (simp [oneCell] at this)
 refine ⟨s1.put b' (some (.row (lputs es (j * 3 + 1) [vv]) 3 false)), fun W => ?_, ?_, rfl, fun i hi => get_put_ne _ _ _ _ (Ne.symm hi)⟩
 ·rw [wk_store, hb1, hone]
  simp only [getK, rowK]
  exact propext ⟨fun h => h.2.2, fun h => ⟨rfl, ⟨trivial, by omega, by simp [hv.2.1]⟩, h⟩⟩
 ·refine ⟨_, fun i => if i = j then vv else vf i, .inr ⟨b', cap, by rw [upd_len]; exact q1, by rw [upd_len]; exact q2, get_put_same _ _ _, by rw [lput1_len _ _ _ hl, upd_len]; exact q4⟩, h2, by show ow v ≤ s1.next; omega, fun i hi => ?_, fun i hi => ?_⟩
  ·rw [upd_len] at hi
   obtain ⟨a1, a2, a3⟩ := h4 i hi
   rw [lput1_get _ _ _ hl, lput1_get _ _ _ hl, lput1_get _ _ _ hl, if_neg (by omega), if_neg (by omega : ¬ i * 3 + 2 = j * 3 + 1)]
   refine ⟨a1, ?_, ?_⟩
   ·by_cases e : i = j
    ·subst e; simp
    ·rw [if_neg (by omega)]; show _ = some (if i = j then vv else vf i); rw [if_neg e]; exact a2
   ·by_cases e : i = j
    ·subst e; rw [upd_same _ _ _ hi, (hf _).2]; exact a3
    ·rw [upd_ne _ _ _ _ (Ne.symm e)]; exact a3
  ·rw [upd_len] at hi ⊢
   by_cases e : i = j
   ·subst e
    simp only [if_true]
    rw [upd_same _ _ _ hi, (hf _).1]
    refine ⟨hv.keep fun x hx => get_put_ne _ _ _ _ fun e => by omega, .inr ⟨hok, by omega⟩, h1, fun k hk hne => .inr ?_⟩
    simp only [if_neg hne]
    have := (h5 k hk).2.2.1
    omega
   ·obtain ⟨m1, m2, m3, m4⟩ := h5 i hi
    simp only [if_neg e]
    rw [upd_ne _ _ _ _ (Ne.symm e)]
    refine ⟨?_, m2, by show _ ≤ s1.next; omega, fun k hk hne => ?_⟩
    ·have hk : VlR g s1 (vf i) (clAt cs i).vals := m1.keep fun x hx => by
      rcases m2 with m2 | m2
      ·omega
      ·refine keepIt x (by rw [hx]; exact m2.1) (by omega) fun e' => ?_
       rcases m4 j hj (Ne.symm e) with m4 | m4
       ·omega
       ·exact m4 (by omega)
     have hk2 : VlR g' s1 (vf i) (clAt cs i).vals := ⟨hk.1, hk.2.1, fun e => hk.2.2 (hg e)⟩
     refine hk2.keep fun x hx => get_put_ne _ _ _ _ fun e => ?_
     subst e
     omega
    ·by_cases ek : k = j
     ·subst ek
      simp only [if_true]
      by_cases h0' : ow (vf i) = 0
      ·exact .inl h0'
      ·exact .inr (by omega)
     ·simp only [if_neg ek]
      exact m4 k hk hne

/-- one argument more -/
theorem AgR.snoc {s1 : St} {nm : ByteArray} (h : AgR ok g st v ns cs) (hns : ns.getD cs.length .empty = nm) (hok : ∀ n, st.next < n → ok n) {bytes sb gg : Nat} {ro : Bool} (hs1 : s1.next = st.next + 1) (hfr : ∀ i, i < st.next → s1.get i = st.get i) (hsb : st.next ≤ sb) (hs : s1.get sb = some (.row [.string nm, .slice none 0 0, .bool false] gg ro)) (hb : (cs.length + 1) * bytes ≤ 1099511627776) (hn : cs.length + 1 ≤ 1099511627776) {W : Value → St → Prop}
  (hW : ∀ v' s2, AgR ok g s2 v' ns (cs ++ [Cl.zero]) → s2.next = s1.next + 1 → (∀ i, i + 1 ≠ ow v → i < st.next → s2.get i = st.get i) → ow v' = s1.next + 1 → W v' s2) :
  wopK (.append 3 bytes) [v, .slice (some ⟨sb, 0, none⟩) 1 1] s1 W := by
 obtain ⟨es, vf, h1, h2, h3, h4, h5⟩ := h
 have hlen : es.length = cs.length * 3 := by
  rcases h1 with ⟨q1, q2, q3⟩ | ⟨b, cap, q1, q2, q3, q4⟩
  ·rw [q2, q3]; rfl
  ·exact q4
 refine appendK (h1.keep fun i hi => hfr i (by omega)) hs rfl (by decide) rfl hb hn fun s2 k1 k2 k3 => ?_
 refine hW _ s2 ⟨es ++ [.string nm, .slice none 0 0, .bool false], fun i => if i < cs.length then vf i else .slice none 0 0, by rw [List.length_append]; exact k1, .inr (hok _ ?_), ?_, fun j hj => ?_, fun j hj => ?_⟩ k2 (fun i hi hl => (k3 i hi (by omega)).trans (hfr i hl)) rfl
 ·show st.next < s1.next + 1; omega
 ·show s1.next + 1 ≤ s2.next; omega
 ·rw [List.length_append, List.length_singleton] at hj
  by_cases e : j < cs.length
  ·obtain ⟨a1, a2, a3⟩ := h4 j e
   rw [List.getElem?_append_left (by omega), List.getElem?_append_left (by omega), List.getElem?_append_left (by omega)]
   show _ ∧ _ = some (if j < cs.length then vf j else .slice none 0 0) ∧ _
   rw [if_pos e]
   have : clAt (cs ++ [Cl.zero]) j = clAt cs j := by simp [clAt, List.getD_eq_getElem?_getD, List.getElem?_append_left e]
   rw [this]
   exact ⟨a1, a2, a3⟩
  ·obtain rfl : j = cs.length := by omega
   rw [List.getElem?_append_right (by omega), List.getElem?_append_right (by omega), List.getElem?_append_right (by omega), hlen]
   show _ ∧ _ = some (if cs.length < cs.length then vf cs.length else .slice none 0 0) ∧ _
   rw [if_neg e, hns]
   have : clAt (cs ++ [Cl.zero]) cs.length = Cl.zero := by simp [clAt, List.getD_eq_getElem?_getD]
   rw [this, show cs.length * 3 - cs.length * 3 = 0 by omega, show cs.length * 3 + 1 - cs.length * 3 = 1 by omega, show cs.length * 3 + 2 - cs.length * 3 = 2 by omega]
   exact ⟨rfl, rfl, rfl⟩
 ·rw [List.length_append, List.length_singleton] at hj
  by_cases e : j < cs.length
  ·obtain ⟨m1, m2, m3, m4⟩ := h5 j e
   have : clAt (cs ++ [Cl.zero]) j = clAt cs j := by simp [clAt, List.getD_eq_getElem?_getD, List.getElem?_append_left e]
   rw [this]
   simp only [if_pos e]
   refine ⟨m1.keep fun i hi => (k3 i (by omega) (by omega)).trans (hfr i (by omega)), ?_, by omega, fun k hk hne => ?_⟩
   ·rcases m2 with m2 | m2
    ·exact .inl m2
    ·exact .inr ⟨m2.1, by show _ ≠ s1.next + 1; omega⟩
   ·by_cases ek : k < cs.length
    ·simp only [if_pos ek]; exact m4 k ek hne
    ·simp only [if_neg ek]
     by_cases h0 : ow (vf j) = 0
     ·exact .inl h0
     ·exact .inr (by show _ ≠ 0; exact h0)
  ·simp only [if_neg e]
   obtain rfl : j = cs.length := by omega
   have : clAt (cs ++ [Cl.zero]) cs.length = Cl.zero := by simp [clAt, List.getD_eq_getElem?_getD]
   rw [this]
   exact ⟨(GroK.nil 1 s2).vl (l := []), .inl rfl, Nat.zero_le _, fun _ _ _ => .inl rfl⟩
end
end Go.Proofs.YtjomiadmminhfaaGreatDoor
end
section
set_option linter.unusedSimpArgs false
set_option linter.unusedVariables false
set_option maxRecDepth 10000
set_option linter.unusedSectionVars false
namespace Go.Proofs.YtjomiadmminhfaaGreatDoor
open Go.Am
attribute [local irreducible] callO wopK ropK popK opK grpsE listE sx Runs

theorem byte_at (s : ByteArray) (j : Nat) (h : j < s.size) : ∃ c, s.data.toList[j]? = some c ∧ s.data.toList.getD j 0 = c ∧ c.toNat < 256 := by
 have hl : j < s.data.toList.length := by rw [← size_list]; exact h
 exact ⟨s.data.toList[j], List.getElem?_eq_getElem hl, by rw [List.getD_eq_getElem?_getD, List.getElem?_eq_getElem hl, Option.getD_some], (s.data.toList[j]).toNat_lt⟩
theorem byte_no (s : ByteArray) (j : Nat) (h : s.size ≤ j) : s.data.toList[j]? = none := List.getElem?_eq_none (by rw [← size_list]; exact h)
theorem u8_eq {c : UInt8} {n : Nat} (h : (c.toNat : Int) = (n : Int)) : c = UInt8.ofNat n := by
 have : c.toNat = n := by omega
 rw [← this]; simp

def readA (s : ByteArray) : Int := if 1000 < s.size then 2 else if s.data.toList.all prn = true then 0 else 250

section
variable {st : St} {K : Value → St → Prop}

theorem kReadable (n : Nat) (s : ByteArray) (h : K (.int .i64 (readA s)) st) : callK (callO T0 orc fns 100000 (n + 1)) 48 [.string s] st K := by
 refine fn_runs (fn := g48) ?_ ?_ ?_
 ·rfl
 ·rfl
 unfold g48
 unfold readA at h
 by_cases hbig : 1000 < s.size
 ·rw [if_pos hbig] at h
  simp (disch := omega) only [↓sxA, ↓wk_store, sxB, sxP, simprocAttr]
  exact h
 rw [if_neg hbig] at h
 simp (disch := omega) only [↓sxA, ↓wk_store, sxB, sxP, simprocAttr]
 refine loop_rule [0, 8, 9] (fun vs st' => st' = st ∧ ∃ j : Nat, vs = [.string s, .int .i64 (s.size : Nat), .int .i64 j] ∧ j ≤ s.size ∧ (s.data.toList.take j).all prn = true) (fun vs _ => match lget vs 2 with
   | .int _ k => ((s.size : Int) - k).toNat
   | _ => 0) ?_ ?_ ?_
 ·rfl
 ·refine ⟨_, rfl, ⟨rfl, 0, rfl, Nat.zero_le _, rfl⟩, ?_⟩
  show ((s.size : Int) - 0).toNat < 100000
  omega
 ·rintro vs st' ⟨rfl, j, rfl, j1, j2⟩
  show sx _ _ _ _ _ [(0, _), (8, _), (9, _)] _ _ _ _
  by_cases hj : j < s.size
  ·obtain ⟨c, hc, hg, hb⟩ := byte_at s j hj
   have bad : prn c = false → s.data.toList.all prn = false := fun hp => by
    rw [List.all_eq_false]
    exact ⟨c, List.mem_of_getElem? hc, by rw [hp]; decide⟩
   have good : prn c = true → (s.data.toList.take (j + 1)).all prn = true := fun hp => by
    rw [List.take_add_one, hc]
    simp [List.all_append, j2, hp]
   simp (disch := omega) only [q_indexStr, Int.toNat_natCast, hg, ↓sxA, ↓wk_store, sxB, sxP, simprocAttr]
   refine iteI (fun c1 => ?_) (fun c1 => iteI (fun c2 => ?_) (fun c2 => ?_))
   ·rw [bad (by simp [prn]; omega)] at h; exact h
   ·rw [bad (by simp [prn]; omega)] at h; exact h
   ·refine ⟨_, rfl, ⟨j + 1, ?_, hj, good (by simp [prn]; omega)⟩, ?_⟩
    ·simp
    ·show ((s.size : Int) - ((j : Int) + 1)).toNat < ((s.size : Int) - j).toNat
     omega
  ·have e : s.data.toList.take j = s.data.toList := List.take_of_length_le (by rw [← size_list]; omega)
   rw [e] at j2
   rw [j2] at h
   simp (disch := omega) only [↓sxA, ↓wk_store, sxB, sxP, simprocAttr]
   exact h

theorem rk_put3 {s : St} {b g : Nat} {ro : Bool} {x y z : Value} (K : Value → Prop) : ropK (.loadN 3) [.pointer (some ⟨b, 0, none⟩)] (s.put b (some (.row [x, y, z] g ro))) K = K (.agg #[x, y, z]) := rk_loadAll (k := 3) (get_put_same _ _ _) rfl (by decide) K

/-- what the program's next gives -/
def wdVal (L : List UInt8) (p : Nat) (v : Value) (e : Int) : Prop := match nxt L p with
 | .fin => v = .agg #[.string .empty, .int .i64 0, .bool false] ∧ e = 0
 | .bad fr => (∃ s a, v = .agg #[.string s, .int .i64 a, .bool true]) ∧ e = -1
 | .wd s q fr to => v = .agg #[.string (bs s), .int .i64 (fr : Nat), .bool q] ∧ e = (to : Nat)

theorem kQuoted (n : Nat) (s : ByteArray) (p : Nat) (hp : p < s.size) (hs : s.size ≤ 1000000) (hr : s.data.toList.all prn = true) (h : K (quoVal (p + 1) (quoR s.data.toList (p + 1))) st) : callK (callO T0 orc fns 100000 n) 116 [.string s, .int .i64 (p : Nat)] st K := by
 rw [callO_none (by rfl)]
 have e : orc 116 [.string s, .int .i64 (p : Nat)] st = .ret (quoVal (p + 1) (quoR s.data.toList (p + 1)), st) := by
  rw [orc_eq (by decide)]
  simp [orc1, hp, hs, hr]
 exact (propext (callK_ret (K := K) e)).mpr h

theorem wdVal_fin {L : List UInt8} {p : Nat} (h : L[blk L p]? = none) : wdVal L p (.agg #[.string .empty, .int .i64 0, .bool false]) 0 := by
 have : nxt L p = .fin := by unfold nxt; rw [h]
 unfold wdVal
 rw [this]
 exact ⟨rfl, rfl⟩
theorem wdVal_eq {L : List UInt8} {p : Nat} (h : L[blk L p]? = some 61) : wdVal L p (.agg #[.string ⟨#[61]⟩, .int .i64 (blk L p : Nat), .bool false]) ((blk L p : Nat) + 1 : Int) := by
 have : nxt L p = .wd [61] false (blk L p) (blk L p + 1) := by unfold nxt; rw [h]; rfl
 unfold wdVal
 rw [this]
 exact ⟨rfl, by simp⟩
theorem wdVal_word {L : List UInt8} {p : Nat} {c : UInt8} (h : L[blk L p]? = some c) (h1 : c ≠ 61) (h2 : c ≠ 34) (hr : L.all prn = true) : wdVal L p (.agg #[.string (bs ((L.drop (blk L p)).take (pwE L (blk L p) - blk L p))), .int .i64 (blk L p : Nat), .bool false]) (pwE L (blk L p) : Nat) := by
 have hall : ((L.drop (blk L p)).take (pw (L.drop (blk L p)))).all prn = true := by
  rw [List.all_eq_true] at hr ⊢
  exact fun x hx => hr x (List.mem_of_mem_drop (List.mem_of_mem_take hx))
 have : nxt L p = .wd ((L.drop (blk L p)).take (pw (L.drop (blk L p)))) false (blk L p) (pwE L (blk L p)) := by
  unfold nxt
  rw [h]
  simp only
  rw [if_neg h1, if_neg h2, if_pos hall]
 unfold wdVal
 rw [this]
 refine ⟨?_, rfl⟩
 have e : pwE L (blk L p) - blk L p = pw (L.drop (blk L p)) := by unfold pwE; omega
 rw [e]
theorem wdVal_quo {L : List UInt8} {p : Nat} (h : L[blk L p]? = some 34) : (∀ x, quoR L (blk L p + 1) = some x → wdVal L p (.agg #[.string (bs x.1), .int .i64 (blk L p : Nat), .bool true]) ((blk L p + 1 + x.2 : Nat) : Int)) ∧ (quoR L (blk L p + 1) = none → ∀ s a, wdVal L p (.agg #[.string s, .int .i64 a, .bool true]) (-1)) := by
 refine ⟨fun x hx => ?_, fun hx s a => ?_⟩
 ·have : nxt L p = .wd x.1 true (blk L p) (blk L p + 1 + x.2) := by
   unfold nxt
   rw [h]
   simp only
   rw [if_neg (by decide), if_pos trivial]
   unfold quoR at hx
   rw [hx]
  unfold wdVal
  rw [this]
  exact ⟨rfl, rfl⟩
 ·have : nxt L p = .bad (blk L p) := by
   unfold nxt
   rw [h]
   simp only
   rw [if_neg (by decide), if_pos trivial]
   unfold quoR at hx
   rw [hx]
  unfold wdVal
  rw [this]
  exact ⟨⟨s, a, rfl⟩, rfl⟩

set_option maxHeartbeats 1000000 in
theorem kNext (n : Nat) (s : ByteArray) (hs : s.size ≤ 90000) (p : Nat) (hp : p ≤ s.size) (hr : s.data.toList.all prn = true) (h : ∀ v e st', wdVal s.data.toList p v e → Frm st st' → K (.tuple #[v, .int .i64 e]) st') : callK (callO T0 orc fns 100000 (n + 1)) 80 [.string s, .int .i64 (p : Nat)] st K := by
 refine fn_runs (fn := g80) ?_ ?_ ?_
 ·rfl
 ·rfl
 unfold g80
 have hsz := size_list s
 have F0 : Frm st (st.new (.row [.string .empty, .int .i64 0, .bool false] 0 false)) := Frm.new st _
 have hbx : (st.new (.row [.string .empty, .int .i64 0, .bool false] 0 false)).get st.next = some (.row [.string .empty, .int .i64 0, .bool false] 0 false) := get_new_same _ _
 simp (disch := omega) only [↓sxA, ↓wk_store, sxB, sxP, simprocAttr]
 generalize st.new (.row [.string .empty, .int .i64 0, .bool false] 0 false) = s1 at F0 hbx
 refine loop_rule [0, 1, 4] (fun vs st' => st' = s1 ∧ ∃ j : Nat, vs = [.string s, .int .i64 (j : Nat), .pointer (some ⟨st.next, 0, none⟩)] ∧ j ≤ s.size ∧ blk s.data.toList j = blk s.data.toList p) (fun vs _ => match lget vs 1 with
   | .int _ k => ((s.size : Int) - k).toNat
   | _ => 0) ?_ ?_ ?_
 ·rfl
 ·refine ⟨_, rfl, ⟨rfl, p, rfl, hp, rfl⟩, ?_⟩
  show ((s.size : Int) - (p : Int)).toNat < 100000
  omega
 ·rintro vs st' ⟨rfl, j, rfl, j1, j2⟩
  show sx _ _ _ _ _ [(0, _), (1, _), (4, _)] _ _ _ _
  by_cases hj : j < s.size
  ·obtain ⟨c, hc, hg, hb'⟩ := byte_at s j hj
   simp (disch := omega) only [q_indexStr, Int.toNat_natCast, hg, ↓sxA, ↓wk_store, sxB, sxP, simprocAttr]
   refine iteI (fun c1 => ?_) (fun c1 => ?_)
   ·refine ⟨_, rfl, ⟨j + 1, ?_, hj, ?_⟩, ?_⟩
    ·simp
    ·rw [← blk_hit (by rw [hc, u8_eq c1]; rfl), j2]
    ·show ((s.size : Int) - ((j : Int) + 1)).toNat < ((s.size : Int) - j).toNat
     omega
   ·have hbj : blk s.data.toList p = j := by rw [← j2, blk_stop (by rw [hc]; intro e; cases e; exact c1 rfl)]
    have hcb : s.data.toList[blk s.data.toList p]? = some c := by rw [hbj]; exact hc
    have hF : ∀ o, Frm st (st'.put st.next o) := fun o => F0.put _ (Nat.le_refl _) _
    refine iteI (fun c2 => ?_) (fun c2 => ?_)
    ·have e61 : c = 61 := u8_eq c2
     have := wdVal_eq (by rw [hcb, e61])
     rw [hbj] at this
     simp (disch := omega) only [hbx, ↓sxA, ↓wk_store, sxB, sxP, simprocAttr]
     rw [resP_k1]
     simp (disch := omega) only [↓rk_put3, ↓sxA, ↓wk_store, sxB, sxP, simprocAttr]
     exact h _ _ _ this (hF _)
    ·have n61 : c ≠ 61 := fun e => c2 (by rw [e]; rfl)
     refine iteI (fun c3 => ?_) (fun c3 => ?_)
     ·have e34 : c = 34 := u8_eq c3
      obtain ⟨w1, w2⟩ := wdVal_quo (p := p) (by rw [hcb, e34])
      rw [hbj] at w1 w2
      refine kQuoted n s j hj (by omega) hr ?_
      cases hq : quoR s.data.toList (j + 1) with
      | none =>
       unfold quoVal
       simp (disch := omega) only [hbx, ↓sxA, ↓wk_store, sxB, sxP, simprocAttr]
       rw [resP_k1]
       simp (disch := omega) only [↓rk_put3, ↓sxA, ↓wk_store, sxB, sxP, simprocAttr]
       exact h _ _ _ (w2 hq _ _) (hF _)
      | some x =>
       unfold quoVal
       simp (disch := omega) only [hbx, ↓sxA, ↓wk_store, sxB, sxP, simprocAttr]
       rw [resP_k1]
       simp (disch := omega) only [↓rk_put3, ↓sxA, ↓wk_store, sxB, sxP, simprocAttr]
       exact h _ _ _ (w1 x hq) (hF _)
     ·have n34 : c ≠ 34 := fun e => c3 (by rw [e]; rfl)
      have hw := wdVal_word (p := p) hcb n61 n34 hr
      rw [hbj] at hw
      simp (disch := omega) only [↓sxA, ↓wk_store, sxB, sxP, simprocAttr]
      refine loop_rule [0, 1, 4, 8] (fun vs s2 => s2 = st' ∧ ∃ i : Nat, vs = [.string s, .int .i64 (j : Nat), .pointer (some ⟨st.next, 0, none⟩), .int .i64 (i : Nat)] ∧ j ≤ i ∧ i ≤ s.size ∧ pwE s.data.toList i = pwE s.data.toList j) (fun vs _ => match lget vs 3 with
        | .int _ k => ((s.size : Int) - k).toNat
        | _ => 0) ?_ ?_ ?_
      ·rfl
      ·refine ⟨_, rfl, ⟨rfl, j, rfl, Nat.le_refl _, by omega, rfl⟩, ?_⟩
       show ((s.size : Int) - (j : Int)).toNat < 100000
       omega
      ·rintro vs s2 ⟨rfl, i, rfl, i1, i2, i3⟩
       show sx _ _ _ _ _ [(0, _), (1, _), (4, _), (8, _)] _ _ _ _
       have fin : pwE s.data.toList j = i → K (.tuple #[.agg #[.string (s.extract j i), .int .i64 (j : Nat), .bool false], .int .i64 (i : Nat)]) (s2.put st.next (some (.row [.string (s.extract j i), .int .i64 (j : Nat), .bool false] 0 false))) := fun e => by
        rw [e] at hw
        rw [extract_bs]
        exact h _ _ _ hw (hF _)
       by_cases hi : i < s.size
       ·obtain ⟨d, hd, hgd, hbd⟩ := byte_at s i hi
        simp (disch := omega) only [q_indexStr, Int.toNat_natCast, hgd, ↓sxA, ↓wk_store, sxB, sxP, simprocAttr]
        refine iteI (fun c4 => ?_) (fun c4 => ?_)
        ·have e32 : d = 32 := u8_eq c4
         simp (disch := omega) only [hbx, q_slBoth, Int.toNat_natCast, ↓sxA, ↓wk_store, sxB, sxP, simprocAttr]
         rw [resP_k1]
         simp (disch := omega) only [↓rk_put3, ↓sxA, ↓wk_store, sxB, sxP, simprocAttr]
         exact fin (by rw [← i3, pwE_stop (fun x hx => by rw [hd] at hx; cases hx; exact .inl e32)])
        ·have n32 : d ≠ 32 := fun e => c4 (by rw [e]; rfl)
         refine iteI (fun c5 => ?_) (fun c5 => ?_)
         ·have e61 : d = 61 := u8_eq c5
          simp (disch := omega) only [hbx, q_slBoth, Int.toNat_natCast, ↓sxA, ↓wk_store, sxB, sxP, simprocAttr]
          rw [resP_k1]
          simp (disch := omega) only [↓rk_put3, ↓sxA, ↓wk_store, sxB, sxP, simprocAttr]
          exact fin (by rw [← i3, pwE_stop (fun x hx => by rw [hd] at hx; cases hx; exact .inr e61)])
         ·have m61 : d ≠ 61 := fun e => c5 (by rw [e]; rfl)
          refine ⟨_, rfl, ⟨i + 1, ?_, by omega, hi, ?_⟩, ?_⟩
          ·simp
          ·rw [← pwE_hit hd n32 m61, i3]
          ·show ((s.size : Int) - ((i : Int) + 1)).toNat < ((s.size : Int) - i).toNat
           omega
       ·simp (disch := omega) only [hbx, q_slBoth, Int.toNat_natCast, ↓sxA, ↓wk_store, sxB, sxP, simprocAttr]
        rw [resP_k1]
        simp (disch := omega) only [↓rk_put3, ↓sxA, ↓wk_store, sxB, sxP, simprocAttr]
        exact fin (by rw [← i3, pwE_stop (fun x hx => by rw [byte_no s i (by omega)] at hx; cases hx)])
  ·have hbj : blk s.data.toList p = j := by rw [← j2, blk_stop (by rw [byte_no s j (by omega)]; decide)]
   have := wdVal_fin (L := s.data.toList) (p := p) (by rw [hbj]; exact byte_no s j (by omega))
   have hF : ∀ o, Frm st (st'.put st.next o) := fun o => F0.put _ (Nat.le_refl _) _
   simp (disch := omega) only [hbx, ↓sxA, ↓wk_store, sxB, sxP, simprocAttr]
   rw [resP_k1]
   simp (disch := omega) only [↓rk_put3, ↓sxA, ↓wk_store, sxB, sxP, simprocAttr]
   exact h _ _ _ this (hF _)
end
end Go.Proofs.YtjomiadmminhfaaGreatDoor
end
section
set_option linter.unusedSimpArgs false
set_option linter.unusedVariables false
set_option maxRecDepth 10000
set_option linter.unusedSectionVars false
namespace Go.Proofs.YtjomiadmminhfaaGreatDoor
open Go.Am
attribute [local irreducible] callO wopK ropK popK opK grpsE listE sx Runs

def nm0 (x : IM) : ByteArray := x.names.headD .empty

/-- the fitter: where its parts are -/
structure FtR (s0 st : St) (bf : Nat) (lv : Value) (s : ByteArray) (l : List IM) (p : Nat) (cs : List Cl) : Prop where
 frm : Frm s0 st
 bf1 : s0.next ≤ bf
 bf2 : bf < st.next
 items : ItR 1 s0 lv l
 len : cs.length = l.length
 body : ∃ ov bn g, st.get bf = some (.row [lv, .string s, .int .i64 (p : Nat), ov, .slice (some ⟨bn, 0, none⟩) l.length l.length] 0 false) ∧ AgR (fun n => s0.next + 1 ≤ n ∧ n ≠ bf + 1 ∧ n ≠ bn + 1) true st ov (l.map nm0) cs ∧
  st.get bn = some (.row (cs.map fun c => .bool c.nm) g false) ∧ s0.next ≤ bn ∧ bn < st.next ∧ bn ≠ bf

section
variable {s0 st st' : St} {bf p : Nat} {lv : Value} {s : ByteArray} {l : List IM} {cs : List Cl}
theorem FtR.keep (h : FtR s0 st bf lv s l p cs) (k : Frm st st') : FtR s0 st' bf lv s l p cs := by
 obtain ⟨ov, bn, g, b1, b2, b3, b4, b5, b6⟩ := h.body
 refine ⟨h.frm.trans k, h.bf1, Nat.lt_of_lt_of_le h.bf2 k.nx, h.items, h.len, ov, bn, g, (k.old _ h.bf2).trans b1, b2.keep k.nx fun i _ hi => k.old i hi, (k.old _ b5).trans b3, b4, Nat.lt_of_lt_of_le b5 k.nx, b6⟩
theorem FtR.its (h : FtR s0 st bf lv s l p cs) : ItR 1 st lv l := h.items.keep h.frm.nx fun i _ hi => h.frm.old i hi
theorem FtR.box (h : FtR s0 st bf lv s l p cs) : ∃ ov nv, st.get bf = some (.row [lv, .string s, .int .i64 (p : Nat), ov, nv] 0 false) := by
 obtain ⟨ov, bn, g, b1, _⟩ := h.body
 exact ⟨_, _, b1⟩
end

section
variable {st : St} {v : Value} {K : Value → St → Prop} {xs : List ByteArray} {x : ByteArray}

end
end Go.Proofs.YtjomiadmminhfaaGreatDoor
end
section
set_option linter.unusedSimpArgs false
set_option linter.unusedVariables false
set_option maxRecDepth 10000
set_option linter.unusedSectionVars false
namespace Go.Proofs.YtjomiadmminhfaaGreatDoor
open Go.Am
attribute [local irreducible] callO wopK ropK popK opK grpsE listE sx Runs

theorem AgR.okv {ok : Nat → Prop} {g : Bool} {st : St} {v : Value} {ns : List ByteArray} {cs : List Cl} (h : AgR ok g st v ns cs) : (ow v = 0 ∨ ok (ow v)) ∧ ow v ≤ st.next := by
 obtain ⟨es, vf, h1, h2, h3, _⟩ := h
 exact ⟨h2, h3⟩

theorem GroK.ceq {esz n : Nat} {st : St} {v : Value} {cs : List Value} (h : GroK esz st v cs n) : cellEq v v = true := by
 rcases h with ⟨h1, _⟩ | ⟨b, cap, h1, _⟩ <;> subst h1 <;> exact one_eqSlice _ _ _
theorem AgR.ceq {ok : Nat → Prop} {g : Bool} {st : St} {v : Value} {ns : List ByteArray} {cs : List Cl} (h : AgR ok g st v ns cs) : cellEq v v = true := by
 obtain ⟨es, vf, h1, _⟩ := h
 exact h1.ceq
section
variable {st : St} {K : Value → St → Prop}
end
end Go.Proofs.YtjomiadmminhfaaGreatDoor
end
section
set_option linter.unusedSimpArgs false
set_option linter.unusedVariables false
set_option maxRecDepth 10000
set_option linter.unusedSectionVars false
namespace Go.Proofs.YtjomiadmminhfaaGreatDoor
open Go.Am
attribute [local irreducible] callO wopK ropK popK opK grpsE listE sx Runs

def Cl.nam (c : Cl) : Cl := ⟨c.vals, c.set, true⟩
def Cl.put (c : Cl) : Cl := ⟨c.vals, true, c.nm⟩

theorem map_upd (cs : List Cl) (k : Nat) (f : Cl → Cl) (hk : k < cs.length) : (upd' cs k f).map (fun c => Value.bool c.nm) = (cs.map fun c => Value.bool c.nm).set k (.bool (f (clAt cs k)).nm) := by
 unfold upd'
 rw [List.map_set]
theorem map_at (cs : List Cl) (k : Nat) (hk : k < cs.length) : (cs.map fun c => Value.bool c.nm)[k]? = some (.bool (clAt cs k).nm) := by
 rw [List.getElem?_map, List.getElem?_eq_getElem hk]
 simp [clAt, List.getD_eq_getElem?_getD, List.getElem?_eq_getElem hk]

section
variable {s0 st : St} {bf p k : Nat} {lv : Value} {s : ByteArray} {l : List IM} {cs : List Cl}
/-- what may be read of the fitter, and how an item is named, and set -/
theorem FtR.open (hF : FtR s0 st bf lv s l p cs) (hk : k < l.length) : ∃ ov bn b s1 s2, st.get bf = some (.row [lv, .string s, .int .i64 (p : Nat), ov, .slice (some ⟨bn, 0, none⟩) l.length l.length] 0 false) ∧
  (∀ K : Value → Prop, popK (.indexAddr 1) [.slice (some ⟨bn, 0, none⟩) l.length l.length, .int .i64 (k : Int)] K = K (.pointer (some ⟨bn, k, none⟩))) ∧ (∀ K : Value → Prop, ropK .load1 [.pointer (some ⟨bn, k, none⟩)] st K = K (.bool (clAt cs k).nm)) ∧
  (∀ K : Value → Prop, popK (.indexAddr 3) [ov, .int .i64 (k : Int)] K = K (.pointer (some ⟨b, k * 3, none⟩))) ∧ (∀ K : Value → Prop, ropK .load1 [.pointer (some ⟨b, k * 3 + 2, none⟩)] st K = K (.bool (clAt cs k).set)) ∧
  (∀ W : Value → St → Prop, wopK (.store 1) [.pointer (some ⟨bn, k, none⟩), .bool true] st W = W undef s1) ∧ FtR s0 s1 bf lv s l p (upd' cs k Cl.nam) ∧ s1.next = st.next ∧ (∀ i, i ≠ bn → s1.get i = st.get i) ∧ s0.next ≤ bn ∧ bn < st.next ∧ bn ≠ bf ∧
  (∀ W : Value → St → Prop, wopK (.store 1) [.pointer (some ⟨b, k * 3 + 2, none⟩), .bool true] st W = W undef s2) ∧ FtR s0 s2 bf lv s l p (upd' cs k Cl.put) := by
 obtain ⟨ov, bn, g, q1, q2, q3, q4, q5, q6⟩ := hF.body
 have hcl := hF.len
 obtain ⟨b, vv, o1, o2, o3, o4, o5, o6, o7, o8, o9⟩ := q2.at (j := k) (by omega)
 obtain ⟨s2, z1, z2, z3, z4⟩ := q2.put_set (j := k) (by omega) Cl.put (fun c => ⟨rfl, rfl⟩) o1
 obtain ⟨okv, onx⟩ := q2.okv
 have okb : s0.next + 1 ≤ b + 1 ∧ b + 1 ≠ bf + 1 ∧ b + 1 ≠ bn + 1 := by
  rcases okv with e | e
  ·omega
  ·rw [o1] at e; exact e
 have hl : k < (cs.map fun c => Value.bool c.nm).length := by rw [List.length_map]; omega
 have hF2 := hF.bf2
 have hF1 := hF.bf1
 have hfx := hF.frm.nx
 refine ⟨ov, bn, b, st.put bn (some (.row (lputs (cs.map fun c => Value.bool c.nm) k [.bool true]) g false)), s2, q1, fun K => ?_, fun K => ?_, o2, o6, fun W => ?_, ?_, rfl, fun i hi => get_put_ne _ _ _ _ (Ne.symm hi), q4, q5, q6, z1, ?_⟩
 ·rw [pk_indexAddr]
  have e : (0 : Nat) + (k : Int).toNat * 1 = k := by omega
  rw [e]
  exact propext ⟨fun h => h.2, fun h => ⟨⟨by omega, by omega⟩, h⟩⟩
 ·rw [rk_load1, q3]
  simp only [getK, rowK]
  exact nthK_at (map_at cs k (by omega)) K
 ·rw [wk_store, q3]
  simp only [getK, rowK]
  exact propext ⟨fun h => h.2.2, fun h => ⟨rfl, ⟨by first | trivial | rfl, by omega, by rfl⟩, h⟩⟩
 ·refine ⟨hF.frm.put _ q4 _, hF1, hF2, hF.items, by rw [upd_len]; exact hcl, ov, bn, g, (get_put_ne _ _ _ _ q6).trans q1, ?_, ?_, q4, q5, q6⟩
  ·have h := q2.keep (st' := st.put bn (some (.row (lputs (cs.map fun c => Value.bool c.nm) k [.bool true]) g false))) (Nat.le_refl _) fun i hi _ => get_put_ne _ _ _ _ (by omega)
   obtain ⟨es, vf, h1, h2, h3, h4, h5⟩ := h
   refine ⟨es, vf, by rw [upd_len]; exact h1, h2, h3, fun j hj => ?_, fun j hj => ?_⟩
   ·rw [upd_len] at hj
    obtain ⟨a1, a2, a3⟩ := h4 j hj
    refine ⟨a1, a2, ?_⟩
    by_cases e : k = j
    ·subst e; rw [upd_same _ _ _ hj]; exact a3
    ·rw [upd_ne _ _ _ _ e]; exact a3
   ·rw [upd_len] at hj ⊢
    have e : (clAt (upd' cs k Cl.nam) j).vals = (clAt cs j).vals := by
     by_cases e : k = j
     ·subst e; rw [upd_same _ _ _ hj]; rfl
     ·rw [upd_ne _ _ _ _ e]
    rw [e]
    exact h5 j hj
  ·rw [map_upd _ _ _ (by omega), get_put_same]
   congr 2
   refine List.ext_getElem? fun i => ?_
   rw [lput1_get _ _ _ hl]
   by_cases e : i = k
   ·subst e; rw [if_pos rfl, List.getElem?_set_self hl]; rfl
   ·rw [if_neg e, List.getElem?_set_ne (Ne.symm e)]
 ·have hov : ∀ i, i ≠ b → s2.get i = st.get i := z4
  refine ⟨⟨by omega, fun i hi => (hov i (by omega)).trans (hF.frm.old i hi)⟩, hF1, by omega, hF.items, by rw [upd_len]; exact hcl, ov, bn, g, (hov _ (by omega)).trans q1, z2, ?_, q4, by omega, q6⟩
  rw [hov _ (by omega), q3, map_upd _ _ _ (by omega)]
  congr 2
  refine List.ext_getElem? fun i => ?_
  by_cases e : k = i
  ·subst e; rw [List.getElem?_set_self hl, map_at cs k (by omega)]; rfl
  ·rw [List.getElem?_set_ne e]
end

end Go.Proofs.YtjomiadmminhfaaGreatDoor
end
section
set_option linter.unusedSimpArgs false
set_option linter.unusedVariables false
set_option maxRecDepth 10000
set_option linter.unusedSectionVars false
namespace Go.Proofs.YtjomiadmminhfaaGreatDoor
open Go.Am
attribute [local irreducible] callO wopK ropK popK opK grpsE listE sx Runs

section
variable {st : St} {K : Value → St → Prop}

end
end Go.Proofs.YtjomiadmminhfaaGreatDoor
end
section
set_option linter.unusedSimpArgs false
set_option linter.unusedVariables false
set_option maxRecDepth 10000
set_option linter.unusedSectionVars false
namespace Go.Proofs.YtjomiadmminhfaaGreatDoor
open Go.Am
attribute [local irreducible] callO wopK ropK popK opK grpsE listE sx Runs

theorem one_cells {v : Value} (h : oneCell v = true) : cellsOf v = [v] := by
 cases v <;> first | rfl | (simp [oneCell] at h)
theorem AgR.one {ok : Nat → Prop} {g : Bool} {st : St} {v : Value} {ns : List ByteArray} {cs : List Cl} (h : AgR ok g st v ns cs) : oneCell v = true := by
 obtain ⟨es, vf, h1, _⟩ := h
 exact h1.one
theorem ItR.one {lo : Nat} {st : St} {v : Value} {l : List IM} (h : ItR lo st v l) : oneCell v = true := by
 obtain ⟨nvs, h1, h2, _⟩ := h
 exact h2.one
section
variable {st : St} {K : Value → St → Prop}

end
end Go.Proofs.YtjomiadmminhfaaGreatDoor
end
section
set_option linter.unusedSimpArgs false
set_option linter.unusedVariables false
set_option maxRecDepth 10000
set_option linter.unusedSectionVars false
namespace Go.Proofs.YtjomiadmminhfaaGreatDoor
open Go.Am
attribute [local irreducible] callO wopK ropK popK opK grpsE listE sx Runs

section
variable {st : St} {K : Value → St → Prop}

theorem Cel.ceq {v : Value} {cs : List Value} (h : Cel st v cs) : cellEq v v = true := by
 rcases h with ⟨h1, _⟩ | ⟨b, o, cap, xs, g, ro, h1, _⟩ | ⟨n, h1, _⟩ <;> subst h1 <;> exact one_eqSlice _ _ _

end
end Go.Proofs.YtjomiadmminhfaaGreatDoor
end
section
set_option linter.unusedSimpArgs false
set_option linter.unusedVariables false
set_option maxRecDepth 10000
set_option linter.unusedSectionVars false
namespace Go.Proofs.YtjomiadmminhfaaGreatDoor
open Go.Am

section
variable {L : List UInt8} {i : Nat} {c d : UInt8}
theorem ql_drop (h : L[i]? = some c) : L.drop i = c :: L.drop (i + 1) := by
 obtain ⟨h1, h2⟩ := List.getElem?_eq_some_iff.1 h
 rw [List.drop_eq_getElem_cons h1, h2]
theorem ql_end (h : L[i]? = none) : quoR L i = none := by
 rw [List.getElem?_eq_none_iff] at h
 rw [quoR, List.drop_eq_nil_of_le h]; rfl
theorem ql_nil (h : L[i]? = none) : L.drop i = [] := List.drop_eq_nil_of_le (List.getElem?_eq_none_iff.1 h)
theorem ql_bad (h : L[i]? = some c) (h1 : c ≠ 34) (h2 : prn c = false) : quoR L i = none := by
 rw [quoR, ql_drop h]
 cases hd : L.drop (i + 1) with
 | nil => simp only [quo]; rw [if_neg h1]
 | cons d r => simp only [quo]; rw [if_neg h1, if_pos h2]
theorem ql_stop (h : L[i]? = some 34) (h1 : ∀ d, L[i + 1]? = some d → d = 32 ∨ d = 61) : quoR L i = some ([], 1) := by
 rw [quoR, ql_drop h]
 cases hd : L[i + 1]? with
 | none => rw [ql_nil hd]; rfl
 | some d =>
  rw [ql_drop hd]
  simp only [quo, if_true]
  rw [if_pos (h1 d hd)]
theorem ql_no (h : L[i]? = some 34) (hd : L[i + 1]? = some d) (h1 : d ≠ 32) (h2 : d ≠ 61) : quoR L i = none := by
 rw [quoR, ql_drop h, ql_drop hd]
 simp only [quo, if_true]
 rw [if_neg (by rintro (e | e); exact h1 e; exact h2 e)]
theorem ql_esc (h : L[i]? = some 42) (hd : L[i + 1]? = some d) (h1 : d = 34 ∨ d = 42) : quoR L i = (quoR L (i + 2)).map fun x => (d :: x.1, x.2 + 2) := by
 rw [quoR, ql_drop h, ql_drop hd]
 simp only [quo]
 rw [if_neg (by decide), if_neg (by decide), if_pos (by simp [h1])]
 rfl
theorem ql_n (h : L[i]? = some 42) (hd : L[i + 1]? = some 110) : quoR L i = (quoR L (i + 2)).map fun x => (10 :: x.1, x.2 + 2) := by
 rw [quoR, ql_drop h, ql_drop hd]
 simp only [quo]
 rw [if_neg (by decide), if_neg (by decide), if_neg (by decide), if_pos (by simp)]
 rfl
theorem ql_oth (h : L[i]? = some c) (hp : prn c = true) (hc : c ≠ 34) (h1 : ∀ d, L[i + 1]? = some d → c = 42 → d ≠ 34 ∧ d ≠ 42 ∧ d ≠ 110) : quoR L i = (quoR L (i + 1)).map fun x => (c :: x.1, x.2 + 1) := by
 unfold quoR
 rw [ql_drop h]
 cases hd : L[i + 1]? with
 | none =>
  rw [ql_nil hd]
  simp only [quo]
  rw [if_neg hc]
  rfl
 | some d =>
  rw [ql_drop hd]
  simp only [quo]
  rw [if_neg hc, if_neg (by rw [hp]; decide), if_neg, if_neg]
  ·rintro ⟨e1, e2⟩; exact (h1 d hd e1).2.2 e2
  ·rintro ⟨e1, e2 | e2⟩
   ·exact (h1 d hd e1).1 e2
   ·exact (h1 d hd e1).2.1 e2
end

theorem resP_k2 (e : Env) (s : St) (a b c n : Nat) (Q : Value → St → Prop) : resP e s [(a, n + 2), (b, 0), (c, 0)] Q = getE e a fun u => ropK (.loadN n) [u] s fun x => getE e b fun v => getE e c fun w => Q (.tuple #[x, v, w]) s := by
 unfold resP getE ropK
 simp only [resE, res1E]
 cases e.get? a with
 | none => rfl
 | some u =>
  simp only
  cases rop (.loadN n) [u] s with
  | none => rfl
  | some x =>
   simp only
   cases e.get? b with
   | none => rfl
   | some v =>
    simp only
    cases e.get? c with
    | none => rfl
    | some w => rfl
attribute [local irreducible] callO wopK ropK popK opK grpsE listE sx Runs

theorem rk_put4 {s : St} {b g : Nat} {ro : Bool} {x y z u : Value} (K : Value → Prop) : ropK (.loadN 4) [.pointer (some ⟨b, 0, none⟩)] (s.put b (some (.row [x, y, z, u] g ro))) K = K (.agg #[x, y, z, u]) := rk_loadAll (k := 4) (get_put_same _ _ _) rfl (by decide) K

/-- what the chapter's next gives -/
def WdR (L : List UInt8) (p : Nat) (v : Value) (more good : Bool) : Prop := match nxt L p with
 | .fin => more = false ∧ good = true ∧ v = .agg #[.string .empty, .bool false, .int .i64 0, .int .i64 0]
 | .bad fr => more = true ∧ good = false ∧ ∃ s q to, v = .agg #[.string s, .bool q, .int .i64 (fr : Nat), .int .i64 to]
 | .wd w q fr to => more = true ∧ good = true ∧ v = .agg #[.string (bs w), .bool q, .int .i64 (fr : Nat), .int .i64 (to : Nat)]

section
variable {st : St} {K : Value → St → Prop}

set_option maxHeartbeats 4000000 in
theorem kNextR (n : Nat) (s : ByteArray) (hs : s.size ≤ 80000) (p : Nat) (hp : p ≤ s.size) (h : ∀ v more good st', WdR s.data.toList p v more good → Frm st st' → K (.tuple #[v, .bool more, .bool good]) st') :
  callK (callO T0 orc fns 100000 (n + 1)) 50 [.string s, .int .i64 (p : Nat)] st K := by
 refine fn_runs (fn := g50) ?_ ?_ ?_
 ·rfl
 ·rfl
 unfold g50
 have hsz := size_list s
 have F0 : Frm st (st.new (.row [.string .empty, .bool false, .int .i64 0, .int .i64 0] 0 false)) := Frm.new st _
 have hbx : (st.new (.row [.string .empty, .bool false, .int .i64 0, .int .i64 0] 0 false)).get st.next = some (.row [.string .empty, .bool false, .int .i64 0, .int .i64 0] 0 false) := get_new_same _ _
 have hn1 : (st.new (.row [.string .empty, .bool false, .int .i64 0, .int .i64 0] 0 false)).next = st.next + 1 := rfl
 simp (disch := omega) only [↓sxA, ↓wk_store, sxB, sxP, simprocAttr]
 generalize st.new (.row [.string .empty, .bool false, .int .i64 0, .int .i64 0] 0 false) = s1 at F0 hbx hn1
 refine loop_rule [0, 1, 4] (fun vs st' => st' = s1 ∧ ∃ j : Nat, vs = [.string s, .int .i64 (j : Nat), .pointer (some ⟨st.next, 0, none⟩)] ∧ j ≤ s.size ∧ blk s.data.toList j = blk s.data.toList p) (fun vs _ => match lget vs 1 with
   | .int _ k => ((s.size : Int) - k).toNat
   | _ => 0) ?_ ?_ ?_
 ·rfl
 ·refine ⟨_, rfl, ⟨rfl, p, rfl, hp, rfl⟩, ?_⟩
  show ((s.size : Int) - (p : Int)).toNat < 100000
  omega
 ·rintro vs st' ⟨rfl, j, rfl, j1, j2⟩
  show sx _ _ _ _ _ [(0, _), (1, _), (4, _)] _ _ _ _
  have hF : ∀ o, Frm st (st'.put st.next o) := fun o => F0.put _ (Nat.le_refl _) _
  by_cases hj : j < s.size
  ·obtain ⟨c, hc, hg, hb'⟩ := byte_at s j hj
   by_cases c1 : (c.toNat : Int) = 32
   ·have hq1 : ((c.toNat : Int) = 32) = True := eq_true c1
    simp (disch := omega) only [q_indexStr, Int.toNat_natCast, hg, hq1, ↓sxA, ↓wk_store, sxB, sxP, simprocAttr]
    refine ⟨_, rfl, ⟨j + 1, ?_, hj, ?_⟩, ?_⟩
    ·simp
    ·rw [← blk_hit (by rw [hc, u8_eq c1]; rfl), j2]
    ·show ((s.size : Int) - ((j : Int) + 1)).toNat < ((s.size : Int) - j).toNat
     omega
   have hq1 : ((c.toNat : Int) = 32) = False := eq_false c1
   have hbj : blk s.data.toList p = j := by rw [← j2, blk_stop (by rw [hc]; intro e; cases e; exact c1 rfl)]
   have hcb : s.data.toList[blk s.data.toList p]? = some c := by rw [hbj]; exact hc
   by_cases c2 : (c.toNat : Int) = 61
   ·have hq2 : ((c.toNat : Int) = 61) = True := eq_true c2
    have e61 : c = 61 := u8_eq c2
    have hW : WdR s.data.toList p (.agg #[.string ⟨#[61]⟩, .bool false, .int .i64 (j : Nat), .int .i64 ((j : Int) + 1)]) true true := by
     have hn : nxt s.data.toList p = .wd [61] false j (j + 1) := by unfold nxt; rw [hcb, hbj]; simp only; rw [if_pos e61]
     unfold WdR
     rw [hn]
     exact ⟨rfl, rfl, by simp; rfl⟩
    simp (disch := omega) only [q_indexStr, Int.toNat_natCast, hg, hq1, hq2, hbx, ↓rk_put4, ↓sxA, ↓wk_store, sxB, sxP, simprocAttr]
    rw [resP_k2]
    simp (disch := omega) only [↓rk_put4, ↓sxA, ↓wk_store, sxB, sxP, simprocAttr]
    exact h _ _ _ _ hW (((hF _).put _ (Nat.le_refl _) _).put _ (Nat.le_refl _) _ |>.put _ (Nat.le_refl _) _)
   have hq2 : ((c.toNat : Int) = 61) = False := eq_false c2
   have n61 : c ≠ 61 := fun e => c2 (by rw [e]; rfl)
   by_cases c3 : (c.toNat : Int) = 34
   ·have hq3 : ((c.toNat : Int) = 34) = True := eq_true c3
    have e34 : c = 34 := u8_eq c3
    have hnQ : ∀ x, quoR s.data.toList (j + 1) = some x → nxt s.data.toList p = .wd x.1 true j (j + 1 + x.2) := fun x hx => by
     unfold nxt; rw [hcb, hbj]; simp only
     rw [if_neg n61, if_pos e34]
     unfold quoR at hx; rw [hx]
    have hnQ0 : quoR s.data.toList (j + 1) = none → nxt s.data.toList p = .bad j := fun hx => by
     unfold nxt; rw [hcb, hbj]; simp only
     rw [if_neg n61, if_pos e34]
     unfold quoR at hx; rw [hx]
    simp (disch := omega) only [q_indexStr, Int.toNat_natCast, hg, hq1, hq2, hq3, hbx, ↓sxA, ↓wk_store, sxB, sxP, simprocAttr]
    obtain ⟨s2, hs2⟩ : ∃ s2, s2 = (st'.put st.next (some (.row [.string .empty, .bool false, .int .i64 (j : Nat), .int .i64 0] 0 false))).put st.next (some (.row [.string .empty, .bool true, .int .i64 (j : Nat), .int .i64 0] 0 false)) := ⟨_, rfl⟩
    have hb2 : s2.get st.next = some (.row [.string .empty, .bool true, .int .i64 (j : Nat), .int .i64 0] 0 false) := by rw [hs2]; exact get_put_same _ _ _
    have F2 : Frm st s2 := by rw [hs2]; exact (hF _).put _ (Nat.le_refl _) _
    have n2 : s2.next = st.next + 1 := by rw [hs2]; exact hn1
    rw [← hs2]
    clear hs2
    refine loop_rule [0, 1, 4, 7] (fun vs s3 => ∃ (i : Nat) (acc : List UInt8) (out : Value), vs = [.string s, .int .i64 (i : Nat), .pointer (some ⟨st.next, 0, none⟩), out] ∧ j + 1 ≤ i ∧ i ≤ s.size ∧ acc.length ≤ i ∧ Wr s2 s3 out acc ∧ quoR s.data.toList (j + 1) = (quoR s.data.toList i).map fun x => (acc ++ x.1, x.2 + (i - (j + 1)))) (fun vs _ => match lget vs 1 with
      | .int _ k => ((s.size : Int) - k).toNat
      | _ => 0) ?_ ?_ ?_
    ·rfl
    ·refine ⟨_, rfl, ⟨j + 1, [], _, by simp, Nat.le_refl _, hj, Nat.zero_le _, ⟨Gro.nil _, .inl rfl, Nat.zero_le _, Frm.refl _⟩, by simp⟩, ?_⟩
     show ((s.size : Int) - ((j : Int) + 1)).toNat < 100000
     omega
    ·rintro vs s3 ⟨i, acc, out, rfl, i1, i2, hac, hW, hQ⟩
     show sx _ _ _ _ _ [(0, _), (1, _), (4, _), (7, _)] _ _ _ _
     have hb3 := (hW.2.2.2.old st.next (by omega)).trans hb2
     have n3 := hW.2.2.2.nx
     have F3 : Frm st s3 := F2.trans hW.2.2.2
     have bad : quoR s.data.toList (j + 1) = none → ∀ w to st5, Frm st st5 → K (.tuple #[.agg #[.string w, .bool true, .int .i64 (j : Nat), .int .i64 to], .bool true, .bool false]) st5 := fun hq w to st5 hf => by
      refine h _ _ _ _ ?_ hf
      unfold WdR
      rw [hnQ0 hq]
      exact ⟨rfl, rfl, _, _, _, rfl⟩
     have all3 := rk_loadAll (k := 4) hb3 rfl (by decide)
     have F3p : ∀ o, Frm st (s3.put st.next o) := fun o => F3.put _ (Nat.le_refl _) _
     by_cases hi : i < s.size
     ·obtain ⟨d, hd, hgd, hbd⟩ := byte_at s i hi
      by_cases d1 : prn d = true
      ·have hp1 : ¬ (d.toNat : Int) < 32 := by simp [prn] at d1; omega
       have hp2 : ¬ (126 : Int) < (d.toNat : Int) := by simp [prn] at d1; omega
       have app : ∀ (e : UInt8) (m : Nat) (W : Value → St → Prop), quoR s.data.toList i = ((quoR s.data.toList (i + m)).map fun x => (e :: x.1, x.2 + m)) → (∀ out1 s4, Wr s2 s4 out1 (acc ++ [e]) → quoR s.data.toList (j + 1) = ((quoR s.data.toList (i + m)).map fun x => (acc ++ [e] ++ x.1, x.2 + (i + m - (j + 1)))) → W out1 s4) →
         wopK (.append 1 1) [out, .slice (some ⟨s3.next, 0, none⟩) 1 1] (s3.new (.row [.int .u8 (e.toNat : Int)] 0 false)) W := fun e m W hq hW' => by
        refine Wr.row (m := [e]) hW rfl Nat.zero_lt_one (by simp; omega) fun out1 s4 g1 g2 g3 g4 => hW' out1 s4 g1 ?_
        exact quo_pre (by omega) hQ hq
       have hmeas1 : ((s.size : Int) - ((i : Int) + 1)).toNat < ((s.size : Int) - (i : Int)).toNat := by omega
       have hmeas2 : ((s.size : Int) - ((i : Int) + 1 + 1)).toNat < ((s.size : Int) - (i : Int)).toNat := by omega
       by_cases d2 : (d.toNat : Int) = 34
       ·have hd2 : ((d.toNat : Int) = 34) = True := eq_true d2
        have e2 : d = 34 := u8_eq d2
        subst e2
        have rs := fun K => rk_str (K := K) hW.1
        have good : quoR s.data.toList i = some ([], 1) → ∀ st5, Frm st st5 → K (.tuple #[.agg #[.string (bs acc), .bool true, .int .i64 (j : Nat), .int .i64 ((i : Int) + 1)], .bool true, .bool true]) st5 := fun hq st5 hf => by
         refine h _ _ _ _ ?_ hf
         unfold WdR
         rw [hnQ _ (by rw [hQ, hq]; rfl)]
         refine ⟨rfl, rfl, ?_⟩
         have hsum : ((j + 1 + (1 + (i - (j + 1))) : Nat) : Int) = (i : Int) + 1 := by omega
         simp only [List.append_nil, hsum]
        have bad' : quoR s.data.toList i = none → ∀ st5, Frm st st5 → K (.tuple #[.agg #[.string (bs acc), .bool true, .int .i64 (j : Nat), .int .i64 ((i : Int) + 1)], .bool true, .bool false]) st5 := fun hq st5 hf => bad (by rw [hQ, hq]; rfl) _ _ _ hf
        by_cases hi1 : i + 1 < s.size
        ·obtain ⟨e, he, hge, hbe⟩ := byte_at s (i + 1) hi1
         have hcast : (i : Int) + 1 = ((i + 1 : Nat) : Int) := by omega
         have hix : ∀ K' : Value → Prop, popK .indexStr [.string s, .int .i64 ((i : Int) + 1)] K' = K' (.int .u8 (e.toNat : Int)) := fun K' => by
          rw [hcast, q_indexStr s .i64 _ (by omega) (by omega), Int.toNat_natCast, hge]
         by_cases x1 : (e.toNat : Int) = 32
         ·have hx1 : ((e.toNat : Int) = 32) = True := eq_true x1
          simp (disch := omega) only [q_indexStr, Int.toNat_natCast, hgd, hd2, hb3, ↓rs, ↓rk_put4, ↓hix, hx1, ↓sxA, ↓wk_store, sxB, sxP, simprocAttr]
          rw [resP_k2]
          simp (disch := omega) only [↓rk_put4, ↓sxA, ↓wk_store, sxB, sxP, simprocAttr]
          exact good (ql_stop hd fun y hy => by rw [he] at hy; cases hy; exact .inl (u8_eq x1)) _ (((F3p _).put _ (Nat.le_refl _) _).put _ (Nat.le_refl _) _)
         ·have hx1 : ((e.toNat : Int) = 32) = False := eq_false x1
          by_cases x2 : (e.toNat : Int) = 61
          ·have hx2 : ((e.toNat : Int) = 61) = True := eq_true x2
           simp (disch := omega) only [q_indexStr, Int.toNat_natCast, hgd, hd2, hb3, ↓rs, ↓rk_put4, ↓hix, hx1, hx2, ↓sxA, ↓wk_store, sxB, sxP, simprocAttr]
           rw [resP_k2]
           simp (disch := omega) only [↓rk_put4, ↓sxA, ↓wk_store, sxB, sxP, simprocAttr]
           exact good (ql_stop hd fun y hy => by rw [he] at hy; cases hy; exact .inr (u8_eq x2)) _ (((F3p _).put _ (Nat.le_refl _) _).put _ (Nat.le_refl _) _)
          ·have hx2 : ((e.toNat : Int) = 61) = False := eq_false x2
           simp (disch := omega) only [q_indexStr, Int.toNat_natCast, hgd, hd2, hb3, ↓rs, ↓rk_put4, ↓hix, hx1, hx2, ↓sxA, ↓wk_store, sxB, sxP, simprocAttr]
           rw [resP_k2]
           simp (disch := omega) only [↓rk_put4, ↓sxA, ↓wk_store, sxB, sxP, simprocAttr]
           exact bad' (ql_no hd he (fun e => x1 (by rw [e]; rfl)) (fun e => x2 (by rw [e]; rfl))) _ (((F3p _).put _ (Nat.le_refl _) _).put _ (Nat.le_refl _) _)
        ·simp (disch := omega) only [q_indexStr, Int.toNat_natCast, hgd, hd2, hb3, ↓rs, ↓rk_put4, ↓sxA, ↓wk_store, sxB, sxP, simprocAttr]
         rw [resP_k2]
         simp (disch := omega) only [↓rk_put4, ↓sxA, ↓wk_store, sxB, sxP, simprocAttr]
         exact good (ql_stop hd fun y hy => by rw [byte_no s (i + 1) (by omega)] at hy; cases hy) _ (((F3p _).put _ (Nat.le_refl _) _).put _ (Nat.le_refl _) _)
       ·have hd2 : ((d.toNat : Int) = 34) = False := eq_false d2
        have n34 : d ≠ 34 := fun e => d2 (by rw [e]; rfl)
        by_cases d3 : (d.toNat : Int) = 42
        ·have hd3 : ((d.toNat : Int) = 42) = True := eq_true d3
         have e42 : d = 42 := u8_eq d3
         subst e42
         by_cases hi1 : i + 1 < s.size
         ·obtain ⟨e, he, hge, hbe⟩ := byte_at s (i + 1) hi1
          have hcast : (i : Int) + 1 = ((i + 1 : Nat) : Int) := by omega
          have hix : ∀ K' : Value → Prop, popK .indexStr [.string s, .int .i64 ((i : Int) + 1)] K' = K' (.int .u8 (e.toNat : Int)) := fun K' => by
           rw [hcast, q_indexStr s .i64 _ (by omega) (by omega), Int.toNat_natCast, hge]
          by_cases x1 : (e.toNat : Int) = 34
          ·have hx1 : ((e.toNat : Int) = 34) = True := eq_true x1
           have hx3 : ((e.toNat : Int) = 110) = False := eq_false (by omega)
           simp (disch := omega) only [q_indexStr, Int.toNat_natCast, hgd, hd2, hd3, ↓hix, hx1, hx3, ↓sxA, ↓wk_store, sxB, sxP, simprocAttr]
           refine app e 2 _ (ql_esc hd he (.inl (u8_eq x1))) fun out1 s4 g1 g2 => ?_
           simp (disch := omega) only [↓sxA, ↓wk_store, sxB, sxP, simprocAttr]
           exact ⟨_, rfl, ⟨i + 2, acc ++ [e], out1, by simp; omega, by omega, by omega, by simp; omega, g1, g2⟩, hmeas2⟩
          ·have hx1 : ((e.toNat : Int) = 34) = False := eq_false x1
           by_cases x2 : (e.toNat : Int) = 42
           ·have hx2 : ((e.toNat : Int) = 42) = True := eq_true x2
            have hx3 : ((e.toNat : Int) = 110) = False := eq_false (by omega)
            simp (disch := omega) only [q_indexStr, Int.toNat_natCast, hgd, hd2, hd3, ↓hix, hx1, hx2, hx3, ↓sxA, ↓wk_store, sxB, sxP, simprocAttr]
            refine app e 2 _ (ql_esc hd he (.inr (u8_eq x2))) fun out1 s4 g1 g2 => ?_
            simp (disch := omega) only [↓sxA, ↓wk_store, sxB, sxP, simprocAttr]
            exact ⟨_, rfl, ⟨i + 2, acc ++ [e], out1, by simp; omega, by omega, by omega, by simp; omega, g1, g2⟩, hmeas2⟩
           ·have hx2 : ((e.toNat : Int) = 42) = False := eq_false x2
            by_cases x3 : (e.toNat : Int) = 110
            ·have hx3 : ((e.toNat : Int) = 110) = True := eq_true x3
             simp (disch := omega) only [q_indexStr, Int.toNat_natCast, hgd, hd2, hd3, ↓hix, hx1, hx2, hx3, ↓sxA, ↓wk_store, sxB, sxP, simprocAttr]
             refine app 10 2 _ (ql_n hd (by rw [he, u8_eq x3]; rfl)) fun out1 s4 g1 g2 => ?_
             simp (disch := omega) only [↓sxA, ↓wk_store, sxB, sxP, simprocAttr]
             exact ⟨_, rfl, ⟨i + 2, acc ++ [10], out1, by simp; omega, by omega, by omega, by simp; omega, g1, g2⟩, hmeas2⟩
            ·have hx3 : ((e.toNat : Int) = 110) = False := eq_false x3
             simp (disch := omega) only [q_indexStr, Int.toNat_natCast, hgd, hd2, hd3, ↓hix, hx1, hx2, hx3, ↓sxA, ↓wk_store, sxB, sxP, simprocAttr]
             refine app 42 1 _ (ql_oth hd d1 n34 fun y hy _ => ?_) fun out1 s4 g1 g2 => ?_
             ·rw [he] at hy; cases hy
              exact ⟨fun e => x1 (by rw [e]; rfl), fun e => x2 (by rw [e]; rfl), fun e => x3 (by rw [e]; rfl)⟩
             simp (disch := omega) only [↓sxA, ↓wk_store, sxB, sxP, simprocAttr]
             exact ⟨_, rfl, ⟨i + 1, acc ++ [42], out1, by simp, by omega, by omega, by simp; omega, g1, g2⟩, hmeas1⟩
         ·simp (disch := omega) only [q_indexStr, Int.toNat_natCast, hgd, hd2, hd3, ↓sxA, ↓wk_store, sxB, sxP, simprocAttr]
          refine app 42 1 _ (ql_oth hd d1 n34 fun y hy _ => ?_) fun out1 s4 g1 g2 => ?_
          ·rw [byte_no s (i + 1) (by omega)] at hy; cases hy
          simp (disch := omega) only [↓sxA, ↓wk_store, sxB, sxP, simprocAttr]
          exact ⟨_, rfl, ⟨i + 1, acc ++ [42], out1, by simp, by omega, by omega, by simp; omega, g1, g2⟩, hmeas1⟩
        ·have hd3 : ((d.toNat : Int) = 42) = False := eq_false d3
         have hpe1 : ((d.toNat : Int) < 32) = False := eq_false hp1
         have hpe2 : ((126 : Int) < (d.toNat : Int)) = False := eq_false hp2
         simp (disch := omega) only [q_indexStr, Int.toNat_natCast, hgd, hd2, hd3, hpe1, hpe2, ↓sxA, ↓wk_store, sxB, sxP, simprocAttr]
         refine app d 1 _ (ql_oth hd d1 n34 fun y hy e => absurd e fun e => d3 (by rw [e]; rfl)) fun out1 s4 g1 g2 => ?_
         simp (disch := omega) only [↓sxA, ↓wk_store, sxB, sxP, simprocAttr]
         exact ⟨_, rfl, ⟨i + 1, acc ++ [d], out1, by simp, by omega, by omega, by simp; omega, g1, g2⟩, hmeas1⟩
      ·have d1' : prn d = false := by simpa using d1
       have hq : quoR s.data.toList i = none := ql_bad hd (fun e => d1 (by rw [e]; rfl)) d1'
       have hbq := bad (by rw [hQ, hq]; rfl)
       simp (disch := omega) only [q_indexStr, Int.toNat_natCast, hgd, hb3, ↓all3, ↓sxA, ↓wk_store, sxB, sxP, simprocAttr]
       refine iteI (fun x1 => ?_) (fun x1 => iteI (fun x2 => ?_) (fun x2 => ?_))
       ·simp (disch := omega) only [hb3, ↓all3, ↓sxA, ↓wk_store, sxB, sxP, simprocAttr]
        rw [resP_k2]
        simp (disch := omega) only [↓rk_put4, ↓sxA, ↓wk_store, sxB, sxP, simprocAttr]
        exact hbq _ _ _ (F3p _)
       ·simp (disch := omega) only [hb3, ↓all3, ↓sxA, ↓wk_store, sxB, sxP, simprocAttr]
        rw [resP_k2]
        simp (disch := omega) only [↓rk_put4, ↓sxA, ↓wk_store, sxB, sxP, simprocAttr]
        exact hbq _ _ _ (F3p _)
       ·exfalso
        refine d1 ?_
        simp [prn]; omega
     ·have hbq := bad (by rw [hQ, ql_end (byte_no s i (by omega))]; rfl)
      simp (disch := omega) only [hb3, ↓all3, ↓sxA, ↓wk_store, sxB, sxP, simprocAttr]
      rw [resP_k2]
      simp (disch := omega) only [↓rk_put4, ↓sxA, ↓wk_store, sxB, sxP, simprocAttr]
      exact hbq _ _ _ (F3p _)
   have hq3 : ((c.toNat : Int) = 34) = False := eq_false c3
   have n34 : c ≠ 34 := fun e => c3 (by rw [e]; rfl)
   simp (disch := omega) only [q_indexStr, Int.toNat_natCast, hg, hq1, hq2, hq3, hbx, ↓sxA, ↓wk_store, sxB, sxP, simprocAttr]
   obtain ⟨s2, hs2⟩ : ∃ s2, s2 = st'.put st.next (some (.row [.string .empty, .bool false, .int .i64 (j : Nat), .int .i64 0] 0 false)) := ⟨_, rfl⟩
   have hb2 : s2.get st.next = some (.row [.string .empty, .bool false, .int .i64 (j : Nat), .int .i64 0] 0 false) := by rw [hs2]; exact get_put_same _ _ _
   have F2 : Frm st s2 := by rw [hs2]; exact hF _
   rw [← hs2]
   clear hs2
   refine loop_rule [0, 1, 4] (fun vs s3 => s3 = s2 ∧ ∃ i : Nat, vs = [.string s, .int .i64 (i : Nat), .pointer (some ⟨st.next, 0, none⟩)] ∧ j ≤ i ∧ i ≤ s.size ∧ pwE s.data.toList i = pwE s.data.toList j ∧ ((s.data.toList.drop j).take (i - j)).all prn = true) (fun vs _ => match lget vs 1 with
     | .int _ k => ((s.size : Int) - k).toNat
     | _ => 0) ?_ ?_ ?_
   ·rfl
   ·refine ⟨_, rfl, ⟨rfl, j, rfl, Nat.le_refl _, j1, rfl, by rw [Nat.sub_self]; rfl⟩, ?_⟩
    show ((s.size : Int) - (j : Int)).toNat < 100000
    omega
   ·rintro vs s3 ⟨rfl, i, rfl, i1, i2, i3, i4⟩
    show sx _ _ _ _ _ [(0, _), (1, _), (4, _)] _ _ _ _
    have F2p : ∀ o, Frm st (s3.put st.next o) := fun o => F2.put _ (Nat.le_refl _) _
    have hpw : pwE s.data.toList j = j + pw (s.data.toList.drop j) := rfl
    have fin : pwE s.data.toList j = i → ∀ st5, Frm st st5 → K (.tuple #[.agg #[.string (s.extract j i), .bool false, .int .i64 (j : Nat), .int .i64 (i : Nat)], .bool true, .bool true]) st5 := fun e st5 hf => by
     refine h _ _ _ _ ?_ hf
     have e' : pw (s.data.toList.drop j) = i - j := by omega
     have hn : nxt s.data.toList p = .wd ((s.data.toList.drop j).take (i - j)) false j i := by
      unfold nxt; rw [hcb, hbj]; simp only
      rw [if_neg n61, if_neg n34, e', if_pos i4, e]
     unfold WdR
     rw [hn]
     refine ⟨rfl, rfl, ?_⟩
     rw [extract_bs]
    by_cases hi : i < s.size
    ·obtain ⟨d, hd, hgd, hbd⟩ := byte_at s i hi
     by_cases x1 : (d.toNat : Int) = 32
     ·have hx1 : ((d.toNat : Int) = 32) = True := eq_true x1
      have hend : pwE s.data.toList j = i := by rw [← i3, pwE_stop (fun y hy => by rw [hd] at hy; cases hy; exact .inl (u8_eq x1))]
      simp (disch := omega) only [q_indexStr, q_slBoth, Int.toNat_natCast, hgd, hx1, hb2, ↓rk_put4, ↓sxA, ↓wk_store, sxB, sxP, simprocAttr]
      rw [resP_k2]
      simp (disch := omega) only [↓rk_put4, ↓sxA, ↓wk_store, sxB, sxP, simprocAttr]
      exact fin hend _ (((F2p _).put _ (Nat.le_refl _) _).put _ (Nat.le_refl _) _)
     have hx1 : ((d.toNat : Int) = 32) = False := eq_false x1
     by_cases x2 : (d.toNat : Int) = 61
     ·have hx2 : ((d.toNat : Int) = 61) = True := eq_true x2
      have hend : pwE s.data.toList j = i := by rw [← i3, pwE_stop (fun y hy => by rw [hd] at hy; cases hy; exact .inr (u8_eq x2))]
      simp (disch := omega) only [q_indexStr, q_slBoth, Int.toNat_natCast, hgd, hx1, hx2, hb2, ↓rk_put4, ↓sxA, ↓wk_store, sxB, sxP, simprocAttr]
      rw [resP_k2]
      simp (disch := omega) only [↓rk_put4, ↓sxA, ↓wk_store, sxB, sxP, simprocAttr]
      exact fin hend _ (((F2p _).put _ (Nat.le_refl _) _).put _ (Nat.le_refl _) _)
     have hx2 : ((d.toNat : Int) = 61) = False := eq_false x2
     have m32 : d ≠ 32 := fun e => x1 (by rw [e]; rfl)
     have m61 : d ≠ 61 := fun e => x2 (by rw [e]; rfl)
     have hdd : (s.data.toList.drop j)[i - j]? = some d := by rw [List.getElem?_drop, show j + (i - j) = i by omega]; exact hd
     have all3 := rk_loadAll (k := 4) hb2 rfl (by decide)
     have bad : prn d = false → ∀ w q to st5, Frm st st5 → K (.tuple #[.agg #[.string w, .bool q, .int .i64 (j : Nat), .int .i64 to], .bool true, .bool false]) st5 := fun hpd w q to st5 hf => by
      refine h _ _ _ _ ?_ hf
      have hlt : i < pwE s.data.toList j := by
       have := (pwE_lt hd m32 m61).1
       rw [i3] at this
       exact this
      have hn : nxt s.data.toList p = .bad j := by
       unfold nxt; rw [hcb, hbj]; simp only
       rw [if_neg n61, if_neg n34, if_neg]
       intro hall
       rw [List.all_eq_true] at hall
       have := hall d (List.mem_of_getElem? (i := i - j) (by rw [List.getElem?_take_of_lt (by omega)]; exact hdd))
       rw [hpd] at this
       cases this
      unfold WdR
      rw [hn]
      exact ⟨rfl, rfl, _, _, _, rfl⟩
     simp (disch := omega) only [q_indexStr, Int.toNat_natCast, hgd, hx1, hx2, ↓sxA, ↓wk_store, sxB, sxP, simprocAttr]
     refine iteI (fun y1 => ?_) (fun y1 => iteI (fun y2 => ?_) (fun y2 => ?_))
     ·simp (disch := omega) only [hb2, ↓all3, ↓sxA, ↓wk_store, sxB, sxP, simprocAttr]
      rw [resP_k2]
      simp (disch := omega) only [↓rk_put4, ↓sxA, ↓wk_store, sxB, sxP, simprocAttr]
      exact bad (by simp [prn]; omega) _ _ _ _ (F2p _)
     ·simp (disch := omega) only [hb2, ↓all3, ↓sxA, ↓wk_store, sxB, sxP, simprocAttr]
      rw [resP_k2]
      simp (disch := omega) only [↓rk_put4, ↓sxA, ↓wk_store, sxB, sxP, simprocAttr]
      exact bad (by simp [prn]; omega) _ _ _ _ (F2p _)
     ·have hpd : prn d = true := by simp [prn]; omega
      refine ⟨_, rfl, ⟨i + 1, by simp, by omega, hi, by rw [← pwE_hit hd m32 m61, i3], ?_⟩, ?_⟩
      ·rw [show i + 1 - j = (i - j) + 1 by omega, List.take_add_one, hdd, List.all_append, i4]; simp [hpd]
      ·show ((s.size : Int) - ((i : Int) + 1)).toNat < ((s.size : Int) - i).toNat
       omega
    ·have hend : pwE s.data.toList j = i := by rw [← i3, pwE_stop (fun y hy => by rw [byte_no s i (by omega)] at hy; cases hy)]
     simp (disch := omega) only [q_slBoth, Int.toNat_natCast, hb2, ↓rk_put4, ↓sxA, ↓wk_store, sxB, sxP, simprocAttr]
     rw [resP_k2]
     simp (disch := omega) only [↓rk_put4, ↓sxA, ↓wk_store, sxB, sxP, simprocAttr]
     exact fin hend _ (((F2p _).put _ (Nat.le_refl _) _).put _ (Nat.le_refl _) _)
  ·have hbj : blk s.data.toList p = j := by rw [← j2, blk_stop (by rw [byte_no s j (by omega)]; decide)]
   have hW : WdR s.data.toList p (.agg #[.string .empty, .bool false, .int .i64 0, .int .i64 0]) false true := by
    have hn : nxt s.data.toList p = .fin := by unfold nxt; rw [hbj, byte_no s j (by omega)]
    unfold WdR
    rw [hn]
    exact ⟨rfl, rfl, rfl⟩
   simp (disch := omega) only [hbx, ↓sxA, ↓wk_store, sxB, sxP, simprocAttr]
   rw [resP_k2]
   simp (disch := omega) only [↓rk_put4, ↓sxA, ↓wk_store, sxB, sxP, simprocAttr]
   exact h _ _ _ _ hW (hF _)
end
end Go.Proofs.YtjomiadmminhfaaGreatDoor
end
