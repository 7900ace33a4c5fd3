/-
  Lists of arguments on the heap.
  The program's small functions on lines: readable, blank, next, isSign.
-/
import Derived.Test.YtdmemibnphcedaaGreatDoorRFmtClaimPart23
import Derived.Test.YtdmemibnphcedaaGreatDoorRFmtClaimPart24
section
set_option linter.unusedSimpArgs false
set_option linter.unusedVariables false
set_option maxRecDepth 10000
set_option linter.unusedSectionVars false
namespace Go.Proofs.YtdmemibnphcedaaGreatDoor
open Go.Am

/-- the values of an argument -/
def VlR (g : Bool) (st : St) (v : Value) (l : List ByteArray) : Prop := Cel st v (l.map Value.string) ∧ oneCell v = true ∧ (g = true → GroK 1 st v (l.map Value.string) l.length)
theorem VlR.keep {g : Bool} {st st' : St} {v : Value} {l : List ByteArray} (h : VlR g st v l) (hb : ∀ i, i + 1 = ow v → st'.get i = st.get i) : VlR g st' v l := ⟨h.1.keep hb, h.2.1, fun e => (h.2.2 e).keep hb⟩
theorem GroK.one {esz n : Nat} {st : St} {v : Value} {cs : List Value} (h : GroK esz st v cs n) : oneCell v = true := by
 rcases h with ⟨h1, _⟩ | ⟨b, cap, h1, _⟩ <;> subst h1 <;> rfl
theorem GroK.vl {g : Bool} {st : St} {v : Value} {l : List ByteArray} (h : GroK 1 st v (l.map Value.string) l.length) : VlR g st v l := ⟨h.cel.1, h.one, fun _ => h⟩
theorem VlR.weak {g : Bool} {st : St} {v : Value} {l : List ByteArray} (h : VlR g st v l) : VlR false st v l := ⟨h.1, h.2.1, fun e => by cases e⟩

/-- a list of arguments: its cells, and where each one's values are -/
def AgR (ok : Nat → Prop) (g : Bool) (st : St) (v : Value) (ns : List ByteArray) (cs : List Cl) : Prop :=
 ∃ (es : List Value) (vf : Nat → Value), GroK 3 st v es cs.length ∧ (ow v = 0 ∨ ok (ow v)) ∧ ow v ≤ st.next ∧
  (∀ j, j < cs.length → es[j * 3]? = some (.string (ns.getD j .empty)) ∧ es[j * 3 + 1]? = some (vf j) ∧ es[j * 3 + 2]? = some (.bool (clAt cs j).set)) ∧
  ∀ j, j < cs.length → VlR g st (vf j) (clAt cs j).vals ∧ (ow (vf j) = 0 ∨ (ok (ow (vf j)) ∧ ow (vf j) ≠ ow v)) ∧ ow (vf j) ≤ st.next ∧ ∀ k, k < cs.length → k ≠ j → ow (vf j) = 0 ∨ ow (vf j) ≠ ow (vf k)

section
variable {ok ok' : Nat → Prop} {g : Bool} {st st' : St} {v : Value} {ns : List ByteArray} {cs : List Cl}

theorem AgR.nil : AgR ok g st (.slice none 0 0) ns [] := ⟨[], fun _ => undef, GroK.nil _ _, .inl rfl, Nat.zero_le _, fun j h => by simp at h, fun j h => by simp at h⟩
theorem AgR.keep (h : AgR ok g st v ns cs) (hn : st.next ≤ st'.next) (hf : ∀ i, ok (i + 1) → i < st.next → st'.get i = st.get i) : AgR ok g st' v ns cs := by
 obtain ⟨es, vf, h1, h2, h3, h4, h5⟩ := h
 refine ⟨es, vf, h1.keep fun i hi => ?_, h2, by omega, h4, fun j hj => ?_⟩
 ·rcases h2 with h2 | h2
  ·omega
  ·exact hf i (by rw [hi]; exact h2) (by omega)
 ·obtain ⟨k1, k2, k3, k4⟩ := h5 j hj
  refine ⟨k1.keep fun i hi => ?_, k2, by omega, k4⟩
  rcases k2 with k2 | k2
  ·omega
  ·exact hf i (by rw [hi]; exact k2.1) (by omega)
theorem AgR.weak (h : AgR ok g st v ns cs) (hok : ∀ n, ok n → n ≤ st.next → ok' n) : AgR ok' false st v ns cs := by
 obtain ⟨es, vf, h1, h2, h3, h4, h5⟩ := h
 refine ⟨es, vf, h1, h2.imp id fun h => hok _ h h3, h3, h4, fun j hj => ?_⟩
 obtain ⟨k1, k2, k3, k4⟩ := h5 j hj
 exact ⟨k1.weak, k2.imp id fun h => ⟨hok _ h.1 k3, h.2⟩, k3, k4⟩
theorem AgR.len (h : AgR ok g st v ns cs) (K : Value → Prop) : popK .lenSl [v] K = K (.int .i64 (cs.length : Nat)) := by
 obtain ⟨es, vf, h1, _⟩ := h
 rcases h1 with ⟨q1, q2, q3⟩ | ⟨b, cap, q1, _⟩
 ·rw [q1, q3]; rfl
 ·rw [q1, pk_lenSl]

theorem lput1_get (es : List Value) (o : Nat) (x : Value) (h : o < es.length) (i : Nat) : (lputs es o [x])[i]? = if i = o then some x else es[i]? := by
 rw [lputs_get es [x] o i (by simp; omega)]
 by_cases e : i = o
 ·subst e; simp
 ·rw [if_neg e]
  by_cases h1 : i < o
  ·rw [if_pos h1]
  ·rw [if_neg h1, if_neg (by simp; omega)]
theorem lput1_len (es : List Value) (o : Nat) (x : Value) (h : o < es.length) : (lputs es o [x]).length = es.length := lputs_length es [x] o (by simp; omega)

/-- an argument of the list -/
theorem AgR.at (h : AgR ok g st v ns cs) {j : Nat} (hj : j < cs.length) : ∃ (b : Nat) (vv : Value), ow v = b + 1 ∧ (∀ K : Value → Prop, popK (.indexAddr 3) [v, .int .i64 (j : Int)] K = K (.pointer (some ⟨b, j * 3, none⟩))) ∧
  (∀ K : Value → Prop, ropK (.loadN 3) [.pointer (some ⟨b, j * 3, none⟩)] st K = K (.agg #[.string (ns.getD j .empty), vv, .bool (clAt cs j).set])) ∧
  (∀ K : Value → Prop, ropK .load1 [.pointer (some ⟨b, j * 3, none⟩)] st K = K (.string (ns.getD j .empty))) ∧ (∀ K : Value → Prop, ropK .load1 [.pointer (some ⟨b, j * 3 + 1, none⟩)] st K = K vv) ∧ (∀ K : Value → Prop, ropK .load1 [.pointer (some ⟨b, j * 3 + 2, none⟩)] st K = K (.bool (clAt cs j).set)) ∧
  VlR g st vv (clAt cs j).vals ∧ (ow vv = 0 ∨ (ok (ow vv) ∧ ow vv ≠ ow v)) ∧ ow vv ≤ st.next := by
 obtain ⟨es, vf, h1, h2, h3, h4, h5⟩ := h
 obtain ⟨a1, a2, a3⟩ := h4 j hj
 obtain ⟨k1, k2, k3, k4⟩ := h5 j hj
 rcases h1 with ⟨q1, q2, q3⟩ | ⟨b, cap, q1, q2, q3, q4⟩
 ·omega
 have ld : ∀ (o : Nat) (x : Value), es[o]? = some x → ∀ K : Value → Prop, ropK .load1 [.pointer (some ⟨b, o, none⟩)] st K = K x := fun o x hx K => by
  rw [rk_load1, q3]
  simp only [getK, rowK]
  exact nthK_at hx K
 refine ⟨b, vf j, by rw [q1]; rfl, fun K => ?_, fun K => ?_, ld _ _ a1, ld _ _ a2, ld _ _ a3, k1, k2, k3⟩
 ·rw [q1, pk_indexAddr]
  have e : (0 : Nat) + (j : Int).toNat * 3 = j * 3 := by omega
  rw [e]
  exact propext ⟨fun h => h.2, fun h => ⟨⟨by omega, by omega⟩, h⟩⟩
 ·refine rk_loadK q3 (k := 3) (xs := [.string (ns.getD j .empty), vf j, .bool (clAt cs j).set]) ?_ rfl (by decide) K
  have hl : ((es.drop (j * 3)).take 3).length = 3 := by rw [List.length_take, List.length_drop]; omega
  refine List.ext_getElem? fun i => ?_
  by_cases hi : i < 3
  ·rw [List.getElem?_take_of_lt hi, List.getElem?_drop]
   match i, hi with
   | 0, _ => exact a1
   | 1, _ => exact a2
   | 2, _ => exact a3
  ·rw [List.getElem?_eq_none (by omega), List.getElem?_eq_none (by simp; omega)]

/-- an argument is set -/
theorem AgR.put_set (h : AgR ok g st v ns cs) {j : Nat} (hj : j < cs.length) (f : Cl → Cl) (hf : ∀ c, (f c).vals = c.vals ∧ (f c).set = true) {b : Nat} (hb : ow v = b + 1) : ∃ s', (∀ W : Value → St → Prop, wopK (.store 1) [.pointer (some ⟨b, j * 3 + 2, none⟩), .bool true] st W = W undef s') ∧ AgR ok g s' v ns (upd' cs j f) ∧ s'.next = st.next ∧ ∀ i, i ≠ b → s'.get i = st.get i := by
 obtain ⟨es, vf, h1, h2, h3, h4, h5⟩ := h
 rcases h1 with ⟨q1, q2, q3⟩ | ⟨b', cap, q1, q2, q3, q4⟩
 ·omega
 obtain rfl : b' = b := by subst q1; simpa [ow] using hb
 have hl : j * 3 + 2 < es.length := by omega
 refine ⟨st.put b' (some (.row (lputs es (j * 3 + 2) [.bool true]) 3 false)), fun W => ?_, ?_, rfl, fun i hi => get_put_ne _ _ _ _ (Ne.symm hi)⟩
 ·rw [wk_store, q3]
  simp only [getK, rowK]
  exact propext ⟨fun h => h.2.2, fun h => ⟨rfl, ⟨by first | trivial | rfl, by omega, by rfl⟩, h⟩⟩
 ·refine ⟨_, vf, .inr ⟨b', cap, by rw [upd_len]; exact q1, by rw [upd_len]; exact q2, get_put_same _ _ _, by rw [lput1_len _ _ _ hl, upd_len]; exact q4⟩, h2, h3, fun i hi => ?_, fun i hi => ?_⟩
  ·rw [upd_len] at hi
   obtain ⟨a1, a2, a3⟩ := h4 i hi
   rw [lput1_get _ _ _ hl, lput1_get _ _ _ hl, lput1_get _ _ _ hl, if_neg (by omega), if_neg (by omega)]
   refine ⟨a1, a2, ?_⟩
   by_cases e : i = j
   ·subst e; rw [if_pos rfl, upd_same _ _ _ hi, (hf _).2]
   ·rw [if_neg (by omega), upd_ne _ _ _ _ (Ne.symm e)]; exact a3
  ·rw [upd_len] at hi ⊢
   obtain ⟨k1, k2, k3, k4⟩ := h5 i hi
   have e : (clAt (upd' cs j f) i).vals = (clAt cs i).vals := by
    by_cases e : i = j
    ·subst e; rw [upd_same _ _ _ hi, (hf _).1]
    ·rw [upd_ne _ _ _ _ (Ne.symm e)]
   rw [e]
   refine ⟨k1.keep fun x hx => get_put_ne _ _ _ _ fun e => ?_, k2, k3, k4⟩
   subst e
   omega

/-- an argument gets other values, which lie in a new row -/
theorem AgR.put_vals {g' : Bool} {s1 : St} {vv vv0 : Value} {l : List ByteArray} (h : AgR ok g st v ns cs) {j : Nat} (hj : j < cs.length) (f : Cl → Cl) (hf : ∀ c, (f c).vals = l ∧ (f c).set = c.set) {b : Nat} (hb : ow v = b + 1) (hg : g' = true → g = true)
  (hn : st.next ≤ s1.next) (hold : ∀ K : Value → Prop, ropK .load1 [.pointer (some ⟨b, j * 3 + 1, none⟩)] st K = K vv0) (hfr : ∀ i, i + 1 ≠ ow vv0 → i < st.next → s1.get i = st.get i) (hv : VlR g' s1 vv l) (hok : ok (ow vv)) (h0 : st.next < ow vv) (h1 : ow vv ≤ s1.next) :
  ∃ s', (∀ W : Value → St → Prop, wopK (.store 1) [.pointer (some ⟨b, j * 3 + 1, none⟩), vv] s1 W = W undef s') ∧ AgR ok g' s' v ns (upd' cs j f) ∧ s'.next = s1.next ∧ ∀ i, i ≠ b → s'.get i = s1.get i := by
 obtain ⟨es, vf, h1', h2, h3, h4, h5⟩ := h
 rcases h1' with ⟨q1, q2, q3⟩ | ⟨b', cap, q1, q2, q3, q4⟩
 ·omega
 obtain rfl : b' = b := by subst q1; simpa [ow] using hb
 obtain ⟨a1, a2, a3⟩ := h4 j hj
 obtain ⟨k1, k2, k3, k4⟩ := h5 j hj
 have hokv : ok (b' + 1) := by
  rcases h2 with h2 | h2
  ·omega
  ·rw [← hb]; exact h2
 have hvv : vf j = vv0 := by
  have := hold (· = vv0)
  rw [rk_load1, q3] at this
  simp only [getK, rowK] at this
  rw [nthK_at a2] at this
  exact this.mpr trivial
 have keepIt : ∀ i, ok (i + 1) → i < st.next → i + 1 ≠ ow (vf j) → s1.get i = st.get i := fun i hi hl hne => hfr i (by rw [← hvv]; exact hne) hl
 have hb1 : s1.get b' = some (.row es 3 false) := by
  rw [keepIt b' hokv (by omega) (by omega)]; exact q3
 have hl : j * 3 + 1 < es.length := by omega
 have hone : cellsOf vv = [vv] := by
  have := hv.2.1
  cases vv <;> first | rfl | (simp [oneCell] at this)
 refine ⟨s1.put b' (some (.row (lputs es (j * 3 + 1) [vv]) 3 false)), fun W => ?_, ?_, rfl, fun i hi => get_put_ne _ _ _ _ (Ne.symm hi)⟩
 ·rw [wk_store, hb1, hone]
  simp only [getK, rowK]
  exact propext ⟨fun h => h.2.2, fun h => ⟨rfl, ⟨trivial, by omega, by simp [hv.2.1]⟩, h⟩⟩
 ·refine ⟨_, fun i => if i = j then vv else vf i, .inr ⟨b', cap, by rw [upd_len]; exact q1, by rw [upd_len]; exact q2, get_put_same _ _ _, by rw [lput1_len _ _ _ hl, upd_len]; exact q4⟩, h2, by show ow v ≤ s1.next; omega, fun i hi => ?_, fun i hi => ?_⟩
  ·rw [upd_len] at hi
   obtain ⟨a1, a2, a3⟩ := h4 i hi
   rw [lput1_get _ _ _ hl, lput1_get _ _ _ hl, lput1_get _ _ _ hl, if_neg (by omega), if_neg (by omega : ¬ i * 3 + 2 = j * 3 + 1)]
   refine ⟨a1, ?_, ?_⟩
   ·by_cases e : i = j
    ·subst e; simp
    ·rw [if_neg (by omega)]; show _ = some (if i = j then vv else vf i); rw [if_neg e]; exact a2
   ·by_cases e : i = j
    ·subst e; rw [upd_same _ _ _ hi, (hf _).2]; exact a3
    ·rw [upd_ne _ _ _ _ (Ne.symm e)]; exact a3
  ·rw [upd_len] at hi ⊢
   by_cases e : i = j
   ·subst e
    simp only [if_true]
    rw [upd_same _ _ _ hi, (hf _).1]
    refine ⟨hv.keep fun x hx => get_put_ne _ _ _ _ fun e => by omega, .inr ⟨hok, by omega⟩, h1, fun k hk hne => .inr ?_⟩
    simp only [if_neg hne]
    have := (h5 k hk).2.2.1
    omega
   ·obtain ⟨m1, m2, m3, m4⟩ := h5 i hi
    simp only [if_neg e]
    rw [upd_ne _ _ _ _ (Ne.symm e)]
    refine ⟨?_, m2, by show _ ≤ s1.next; omega, fun k hk hne => ?_⟩
    ·have hk : VlR g s1 (vf i) (clAt cs i).vals := m1.keep fun x hx => by
      rcases m2 with m2 | m2
      ·omega
      ·refine keepIt x (by rw [hx]; exact m2.1) (by omega) fun e' => ?_
       rcases m4 j hj (Ne.symm e) with m4 | m4
       ·omega
       ·exact m4 (by omega)
     have hk2 : VlR g' s1 (vf i) (clAt cs i).vals := ⟨hk.1, hk.2.1, fun e => hk.2.2 (hg e)⟩
     refine hk2.keep fun x hx => get_put_ne _ _ _ _ fun e => ?_
     subst e
     omega
    ·by_cases ek : k = j
     ·subst ek
      simp only [if_true]
      by_cases h0' : ow (vf i) = 0
      ·exact .inl h0'
      ·exact .inr (by omega)
     ·simp only [if_neg ek]
      exact m4 k hk hne

/-- one argument more -/
theorem AgR.snoc {s1 : St} {nm : ByteArray} (h : AgR ok g st v ns cs) (hns : ns.getD cs.length .empty = nm) (hok : ∀ n, st.next < n → ok n) {bytes sb gg : Nat} {ro : Bool} (hs1 : s1.next = st.next + 1) (hfr : ∀ i, i < st.next → s1.get i = st.get i) (hsb : st.next ≤ sb) (hs : s1.get sb = some (.row [.string nm, .slice none 0 0, .bool false] gg ro)) (hb : (cs.length + 1) * bytes ≤ 1099511627776) (hn : cs.length + 1 ≤ 1099511627776) {W : Value → St → Prop}
  (hW : ∀ v' s2, AgR ok g s2 v' ns (cs ++ [Cl.zero]) → s2.next = s1.next + 1 → (∀ i, i + 1 ≠ ow v → i < st.next → s2.get i = st.get i) → ow v' = s1.next + 1 → W v' s2) :
  wopK (.append 3 bytes) [v, .slice (some ⟨sb, 0, none⟩) 1 1] s1 W := by
 obtain ⟨es, vf, h1, h2, h3, h4, h5⟩ := h
 have hlen : es.length = cs.length * 3 := by
  rcases h1 with ⟨q1, q2, q3⟩ | ⟨b, cap, q1, q2, q3, q4⟩
  ·rw [q2, q3]; rfl
  ·exact q4
 refine appendK (h1.keep fun i hi => hfr i (by omega)) hs rfl (by decide) rfl hb hn fun s2 k1 k2 k3 => ?_
 refine hW _ s2 ⟨es ++ [.string nm, .slice none 0 0, .bool false], fun i => if i < cs.length then vf i else .slice none 0 0, by rw [List.length_append]; exact k1, .inr (hok _ ?_), ?_, fun j hj => ?_, fun j hj => ?_⟩ k2 (fun i hi hl => (k3 i hi (by omega)).trans (hfr i hl)) rfl
 ·show st.next < s1.next + 1; omega
 ·show s1.next + 1 ≤ s2.next; omega
 ·rw [List.length_append, List.length_singleton] at hj
  by_cases e : j < cs.length
  ·obtain ⟨a1, a2, a3⟩ := h4 j e
   rw [List.getElem?_append_left (by omega), List.getElem?_append_left (by omega), List.getElem?_append_left (by omega)]
   show _ ∧ _ = some (if j < cs.length then vf j else .slice none 0 0) ∧ _
   rw [if_pos e]
   have : clAt (cs ++ [Cl.zero]) j = clAt cs j := by simp [clAt, List.getD_eq_getElem?_getD, List.getElem?_append_left e]
   rw [this]
   exact ⟨a1, a2, a3⟩
  ·obtain rfl : j = cs.length := by omega
   rw [List.getElem?_append_right (by omega), List.getElem?_append_right (by omega), List.getElem?_append_right (by omega), hlen]
   show _ ∧ _ = some (if cs.length < cs.length then vf cs.length else .slice none 0 0) ∧ _
   rw [if_neg e, hns]
   have : clAt (cs ++ [Cl.zero]) cs.length = Cl.zero := by simp [clAt, List.getD_eq_getElem?_getD]
   rw [this, show cs.length * 3 - cs.length * 3 = 0 by omega, show cs.length * 3 + 1 - cs.length * 3 = 1 by omega, show cs.length * 3 + 2 - cs.length * 3 = 2 by omega]
   exact ⟨rfl, rfl, rfl⟩
 ·rw [List.length_append, List.length_singleton] at hj
  by_cases e : j < cs.length
  ·obtain ⟨m1, m2, m3, m4⟩ := h5 j e
   have : clAt (cs ++ [Cl.zero]) j = clAt cs j := by simp [clAt, List.getD_eq_getElem?_getD, List.getElem?_append_left e]
   rw [this]
   simp only [if_pos e]
   refine ⟨m1.keep fun i hi => (k3 i (by omega) (by omega)).trans (hfr i (by omega)), ?_, by omega, fun k hk hne => ?_⟩
   ·rcases m2 with m2 | m2
    ·exact .inl m2
    ·exact .inr ⟨m2.1, by show _ ≠ s1.next + 1; omega⟩
   ·by_cases ek : k < cs.length
    ·simp only [if_pos ek]; exact m4 k ek hne
    ·simp only [if_neg ek]
     by_cases h0 : ow (vf j) = 0
     ·exact .inl h0
     ·exact .inr (by show _ ≠ 0; exact h0)
  ·simp only [if_neg e]
   obtain rfl : j = cs.length := by omega
   have : clAt (cs ++ [Cl.zero]) cs.length = Cl.zero := by simp [clAt, List.getD_eq_getElem?_getD]
   rw [this]
   exact ⟨(GroK.nil 1 s2).vl (l := []), .inl rfl, Nat.zero_le _, fun _ _ _ => .inl rfl⟩
end
end Go.Proofs.YtdmemibnphcedaaGreatDoor
end
section
set_option linter.unusedSimpArgs false
set_option linter.unusedVariables false
set_option maxRecDepth 10000
set_option linter.unusedSectionVars false
namespace Go.Proofs.YtdmemibnphcedaaGreatDoor
open Go.Am
attribute [local irreducible] callO wopK ropK popK opK grpsE listE sx Runs

theorem byte_at (s : ByteArray) (j : Nat) (h : j < s.size) : ∃ c, s.data.toList[j]? = some c ∧ s.data.toList.getD j 0 = c ∧ c.toNat < 256 := by
 have hl : j < s.data.toList.length := by rw [← size_list]; exact h
 exact ⟨s.data.toList[j], List.getElem?_eq_getElem hl, by rw [List.getD_eq_getElem?_getD, List.getElem?_eq_getElem hl, Option.getD_some], (s.data.toList[j]).toNat_lt⟩
theorem u8_eq {c : UInt8} {n : Nat} (h : (c.toNat : Int) = (n : Int)) : c = UInt8.ofNat n := by
 have : c.toNat = n := by omega
 rw [← this]; simp

section
variable {st : St} {K : Value → St → Prop}

end
end Go.Proofs.YtdmemibnphcedaaGreatDoor
end
