/-
  A list of items on the heap; the program's Template.
  The chapter's Template.
  Usage, by the chapter.
-/
import Derived.Test.YtjomiadmminhfaaGreatDoorSFilClaimPart19
section
set_option linter.unusedSimpArgs false
set_option linter.unusedVariables false
set_option maxRecDepth 10000
set_option linter.unusedSectionVars false
namespace Go.Proofs.YtjomiadmminhfaaGreatDoor
open Go.Am

/-! ### lists of items, in plain words -/
/-! ### on the heap -/
def itRow : List Value → List IM → List Value
 | nv :: nvs, x :: l => itCells nv x.mks ++ itRow nvs l
 | _, _ => []
theorem itRow_snoc : ∀ (nvs : List Value) (l : List IM) (nv : Value) (x : IM), nvs.length = l.length → itRow (nvs ++ [nv]) (l ++ [x]) = itRow nvs l ++ itCells nv x.mks
 | [], [], nv, x, _ => by simp [itRow]
 | a :: nvs, y :: l, nv, x, h => by
  simp only [List.cons_append, itRow, List.append_assoc]
  rw [itRow_snoc nvs l nv x (by simpa using h)]
theorem itRow_at : ∀ (nvs : List Value) (l : List IM) (j : Nat) (nv : Value) (x : IM), nvs[j]? = some nv → l[j]? = some x → ((itRow nvs l).drop (j * 7)).take 7 = itCells nv x.mks
 | a :: nvs, y :: l, 0, nv, x, h1, h2 => by
  simp at h1 h2
  subst h1 h2
  rfl
 | a :: nvs, y :: l, j + 1, nv, x, h1, h2 => by
  simp only [itRow]
  rw [show (j + 1) * 7 = 7 + j * 7 by omega, ← List.drop_drop]
  have : List.drop 7 (itCells a y.mks ++ itRow nvs l) = itRow nvs l := rfl
  rw [this]
  exact itRow_at nvs l j nv x (by simpa using h1) (by simpa using h2)
 | [], _, j, nv, x, h1, _ => by simp at h1
 | _ :: _, [], j, nv, x, _, h2 => by simp at h2

/-- a heap holds a list of items; all of it lies from the block lo - 1 on -/
def ItR (lo : Nat) (st : St) (v : Value) (l : List IM) : Prop :=
 ∃ nvs : List Value, nvs.length = l.length ∧ GroK 7 st v (itRow nvs l) l.length ∧ (ow v = 0 ∨ lo ≤ ow v) ∧ ow v ≤ st.next ∧
  ∀ (j : Nat) (nv : Value) (x : IM), nvs[j]? = some nv → l[j]? = some x → Cel st nv (x.names.map Value.string) ∧ oneCell nv = true ∧ (ow nv = 0 ∨ (lo ≤ ow nv ∧ ow nv ≠ ow v)) ∧ ow nv ≤ st.next

theorem ItR.nil (lo : Nat) (st : St) : ItR lo st (.slice none 0 0) [] := ⟨[], rfl, GroK.nil _ _, .inl rfl, Nat.zero_le _, fun j nv x h => by simp at h⟩
theorem ItR.keep {lo : Nat} {st st' : St} {v : Value} {l : List IM} (h : ItR lo st v l) (hn : st.next ≤ st'.next) (hf : ∀ i, lo ≤ i + 1 → i < st.next → st'.get i = st.get i) : ItR lo st' v l := by
 obtain ⟨nvs, h1, h2, h3, h4, h5⟩ := h
 refine ⟨nvs, h1, h2.keep fun i hi => hf i (by omega) (by omega), h3, by omega, fun j nv x hj hx => ?_⟩
 obtain ⟨k1, k2, k3, k4⟩ := h5 j nv x hj hx
 exact ⟨k1.keep fun i hi => hf i (by omega) (by omega), k2, k3, by omega⟩
theorem ItR.len {lo : Nat} {st : St} {v : Value} {l : List IM} (h : ItR lo st v l) (K : Value → Prop) : popK .lenSl [v] K = K (.int .i64 (l.length : Nat)) := by
 obtain ⟨nvs, h1, h2, _⟩ := h
 rcases h2 with ⟨q1, q2, q3⟩ | ⟨b, cap, q1, _⟩
 ·rw [q1, q3]; rfl
 ·rw [q1, pk_lenSl]
theorem ItR.at {lo : Nat} {st : St} {v : Value} {l : List IM} (h : ItR lo st v l) {j : Nat} (hj : j < l.length) : ∃ (b : Nat) (nv : Value), (∀ K : Value → Prop, popK (.indexAddr 7) [v, .int .i64 (j : Int)] K = K (.pointer (some ⟨b, j * 7, none⟩))) ∧ (∀ K : Value → Prop, ropK (.loadN 7) [.pointer (some ⟨b, j * 7, none⟩)] st K = K (.agg (itCells nv l[j].mks).toArray)) ∧
  (∀ (k : Nat) (c : Value), (itCells nv l[j].mks)[k]? = some c → ∀ K : Value → Prop, ropK .load1 [.pointer (some ⟨b, j * 7 + k, none⟩)] st K = K c) ∧ Cel st nv (l[j].names.map Value.string) ∧ oneCell nv = true ∧ (ow nv = 0 ∨ lo ≤ ow nv) ∧ ow nv ≤ st.next := by
 obtain ⟨nvs, h1, h2, h3, h4, h5⟩ := h
 rcases h2 with ⟨q1, q2, q3⟩ | ⟨b, cap, q1, q2, q3, q4⟩
 ·omega
 have hnv : nvs[j]? = some (nvs[j]'(by omega)) := List.getElem?_eq_getElem _
 have hx : l[j]? = some l[j] := List.getElem?_eq_getElem _
 obtain ⟨k1, k2, k3, k4⟩ := h5 j _ _ hnv hx
 have hat := itRow_at nvs l j _ _ hnv hx
 refine ⟨b, nvs[j]'(by omega), fun K => ?_, fun K => rk_loadK q3 hat rfl (by decide) K, fun k c hc K => ?_, k1, k2, by omega, k4⟩
 ·rw [q1, pk_indexAddr]
  have e : (0 : Nat) + (j : Int).toNat * 7 = j * 7 := by omega
  rw [e]
  exact propext ⟨fun h => h.2, fun h => ⟨⟨by omega, by omega⟩, h⟩⟩
 ·rw [rk_load1, q3]
  simp only [getK, rowK]
  refine nthK_at ?_ K
  rw [← hat] at hc
  have hk : k < 7 := by
   have := (List.getElem?_eq_some_iff.1 hc).1
   rw [List.length_take] at this
   omega
  rw [List.getElem?_take_of_lt hk, List.getElem?_drop] at hc
  exact hc
theorem ItR.snoc {lo : Nat} {st st' : St} {v v' nv : Value} {l : List IM} {x : IM} {nvs : List Value} (h1 : nvs.length = l.length) (h5 : ∀ (j : Nat) (nv : Value) (x : IM), nvs[j]? = some nv → l[j]? = some x → Cel st nv (x.names.map Value.string) ∧ oneCell nv = true ∧ (ow nv = 0 ∨ (lo ≤ ow nv ∧ ow nv ≠ ow v)) ∧ ow nv ≤ st.next)
  (hg : GroK 7 st' v' (itRow nvs l ++ itCells nv x.mks) (l.length + 1)) (hn : st.next ≤ st'.next) (hf : ∀ i, i + 1 ≠ ow v → i < st.next → st'.get i = st.get i) (hv' : lo ≤ ow v' ∧ st.next < ow v' ∧ ow v' ≤ st'.next)
  (hc : Cel st nv (x.names.map Value.string)) (ho : oneCell nv = true) (hw : ow nv = 0 ∨ (lo ≤ ow nv ∧ ow nv ≠ ow v)) (hwn : ow nv ≤ st.next) : ItR lo st' v' (l ++ [x]) := by
 refine ⟨nvs ++ [nv], by simp [h1], by rw [itRow_snoc _ _ _ _ h1, List.length_append]; exact hg, .inr hv'.1, hv'.2.2, fun j nv' x' hj hx => ?_⟩
 by_cases hjl : j < l.length
 ·rw [List.getElem?_append_left (by omega)] at hj hx
  obtain ⟨k1, k2, k3, k4⟩ := h5 j nv' x' hj hx
  refine ⟨k1.keep fun i hi => hf i (by omega) (by omega), k2, by omega, by omega⟩
 ·rw [List.getElem?_append_right (by omega)] at hj hx
  have e1 : j - nvs.length = 0 := by
   have := (List.getElem?_eq_some_iff.1 hj).1
   simp at this
   omega
  rw [e1] at hj
  rw [show j - l.length = 0 by omega] at hx
  simp at hj hx
  subst hj hx
  exact ⟨hc.keep fun i hi => hf i (by omega) (by omega), ho, by omega, by omega⟩

/-- the names that were seen -/
def Seen (es : List (Value × Value × Nat)) (ns : List ByteArray) : Prop := es.map (fun e => (e.1, e.2.1)) = ns.map fun n => (Value.string n, Value.bool true)

theorem Seen.snoc {es : List (Value × Value × Nat)} {ns : List ByteArray} (h : Seen es ns) (q : ByteArray) (c : Nat) : Seen (es ++ [(.string q, .bool true, c)]) (ns ++ [q]) := by
 unfold Seen at *
 rw [List.map_append, h, List.map_append]
 rfl
end Go.Proofs.YtjomiadmminhfaaGreatDoor
end
section
set_option linter.unusedSimpArgs false
set_option linter.unusedVariables false
set_option maxRecDepth 10000
set_option linter.unusedSectionVars false
namespace Go.Proofs.YtjomiadmminhfaaGreatDoor
open Go.Am
attribute [local irreducible] callO wopK ropK popK opK grpsE listE sx Runs

/-- a list of items; no part of it lies in the block a - 1 -/
def ItV (lo a : Nat) (st : St) (v : Value) (l : List IM) (nvs : List Value) : Prop :=
 nvs.length = l.length ∧ GroK 7 st v (itRow nvs l) l.length ∧ (ow v = 0 ∨ (lo ≤ ow v ∧ ow v ≠ a)) ∧ ow v ≤ st.next ∧
  ∀ (j : Nat) (nv : Value) (x : IM), nvs[j]? = some nv → l[j]? = some x → Cel st nv (x.names.map Value.string) ∧ oneCell nv = true ∧ (ow nv = 0 ∨ (lo ≤ ow nv ∧ ow nv ≠ ow v ∧ ow nv ≠ a)) ∧ ow nv ≤ st.next

theorem ItV.keep {lo a a' : Nat} {st st' : St} {v : Value} {l : List IM} {nvs : List Value} (h : ItV lo a st v l nvs) (hn : st.next ≤ st'.next) (hf : ∀ i, i + 1 ≠ a → lo ≤ i + 1 → i < st.next → st'.get i = st.get i) (ha : a' = a ∨ a' = 0 ∨ st.next < a') : ItV lo a' st' v l nvs := by
 obtain ⟨h1, h2, h3, h4, h5⟩ := h
 refine ⟨h1, h2.keep fun i hi => hf i (by omega) (by omega) (by omega), by omega, by omega, fun j nv x hj hx => ?_⟩
 obtain ⟨k1, k2, k3, k4⟩ := h5 j nv x hj hx
 exact ⟨k1.keep fun i hi => hf i (by omega) (by omega) (by omega), k2, by omega, by omega⟩

/-! ### how many names there are at most -/
section
variable {st : St} {K : Value → St → Prop}

end
end Go.Proofs.YtjomiadmminhfaaGreatDoor
end
section
set_option linter.unusedSimpArgs false
set_option linter.unusedVariables false
set_option maxRecDepth 10000
set_option linter.unusedSectionVars false
namespace Go.Proofs.YtjomiadmminhfaaGreatDoor
open Go.Am

section
variable {st st' : St} {v u : Value} {l m : List UInt8} {K : Value → Prop}
theorem append_src (hd : Gro st v l) (s1 : srcLen u = some m.length) (s2 : st.srcCells 1 u = some (m.map u8v)) (hsz : l.length + m.length ≤ 1099511627776) {W : Value → St → Prop}
  (h : ∀ v' st', Gro st' v' (l ++ m) → (ow v' = ow v ∨ (ow v' = st.next + 1 ∧ st.next + 1 ≤ st'.next)) → st.next ≤ st'.next → (∀ i, i + 1 ≠ ow v → i < st.next → st'.get i = st.get i) → W v' st') :
  wopK (.append 1 1) [v, u] st W := by
 simp only [wopK, wop, appendV, s1, s2]
 by_cases hm : m = []
 ·subst hm
  simp only [List.length_nil, if_true]
  obtain ⟨a, cap, rfl⟩ := hd.bys.cap
  simp only
  refine h _ st ?_ (.inl rfl) (Nat.le_refl _) (fun _ _ _ => rfl)
  simpa using hd
 ·have hm0 : m.length ≠ 0 := fun e => hm (List.eq_nil_of_length_eq_zero e)
  simp only [hm0, if_false, all_u8, Nat.one_ne_zero, not_true_eq_false, or_self]
  have fin : ∀ (st0 : St), st0.next = st.next → (∀ i, i + 1 ≠ ow v → st0.get i = st.get i) → W (.slice (some ⟨st.next, 0, none⟩) (l.length + m.length) (l.length + m.length)) (st0.new (.row (l.map u8v ++ m.map u8v) 1 false)) := by
   intro st0 e1 e2
   refine h _ _ ?_ (.inr ⟨rfl, ?_⟩) ?_ (fun i hi hlt => ?_)
   ·refine .inr (.inl ⟨st.next, 0, l.length + m.length, l.map u8v ++ m.map u8v, ?_, ?_, ?_, ?_, ?_⟩)
    ·simp
    ·simp
    ·rw [← e1, St.get_new, if_pos rfl]
    ·simp
    ·rw [List.map_append, List.drop_zero, List.take_of_length_le (by simp)]
   ·show st.next + 1 ≤ st0.next + 1; omega
   ·show st.next ≤ st0.next + 1; omega
   ·rw [St.get_new, if_neg (by omega), e2 i hi]
  rcases hd with ⟨q, q'⟩ | ⟨b, o, cap, cs, q1, q2, q3, q5, q6⟩ | ⟨b, o, cs, ro, q1, q2, q3, q4⟩
  ·subst q q'
   simp only
   rw [if_pos (by simp at hsz; omega)]
   have := fin st rfl (fun _ _ => rfl)
   simpa [St.grow] using this
  ·subst q1
   simp only
   rw [if_pos (by omega)]
   have hc : st.cells ⟨b, o, none⟩ (l.length * 1) = some (l.map u8v) := by
    simp only [St.cells, q3, Nat.mul_one]
    rw [if_pos q5, q6]
   simp only [q3, hc, Nat.one_ne_zero, if_false, true_and]
   rw [if_pos (by omega)]
   have := fin (st.put b none) rfl (fun i hi => by rw [St.get_put, if_neg (fun e => hi (by show i + 1 = b + 1; omega))])
   simpa [St.grow] using this
  ·subst q1 q2
   simp only
   rw [if_pos (by simp at hsz; omega)]
   have hc : st.cells ⟨b, o, none⟩ (0 * 1) = some [] := by
    simp only [St.cells, q3, Nat.zero_mul, Nat.add_zero, List.take_zero]
    rw [if_pos q4]
   simp only [q3, hc, if_true]
   rw [if_neg (by omega)]
   have := fin st rfl (fun _ _ => rfl)
   simpa [St.grow] using this


theorem append_row {b g n : Nat} {ro : Bool} (hd : Gro st v l) (hb : st.get b = some (.row (m.map u8v) g ro)) (hn : m.length = n) (h0 : 0 < n) (hsz : l.length + m.length ≤ 1099511627776) {W : Value → St → Prop}
  (h : ∀ v' st', Gro st' v' (l ++ m) → (ow v' = ow v ∨ (ow v' = st.next + 1 ∧ st.next + 1 ≤ st'.next)) → st.next ≤ st'.next → (∀ i, i + 1 ≠ ow v → i < st.next → st'.get i = st.get i) → W v' st') :
  wopK (.append 1 1) [v, .slice (some ⟨b, 0, none⟩) n n] st W := by
 subst hn
 refine append_src hd rfl ?_ hsz h
 simp only [St.srcCells, St.cells, hb]
 rw [if_neg (by omega), if_pos (by rw [List.length_map]; show 0 + m.length * 1 ≤ _; omega), List.drop_zero, List.take_of_length_le (by rw [List.length_map]; omega)]
end
attribute [local irreducible] callO wopK ropK popK opK grpsE listE sx Runs

/-- what was written so far -/
def Wr (s0 s : St) (out : Value) (L : List UInt8) : Prop := Gro s out L ∧ (ow out = 0 ∨ s0.next + 1 ≤ ow out) ∧ ow out ≤ s.next ∧ Frm s0 s

theorem Wr.row {s0 s : St} {out : Value} {L m : List UInt8} {g n : Nat} {ro : Bool} (h : Wr s0 s out L) (hn : m.length = n) (h0 : 0 < n) (hsz : L.length + m.length ≤ 1099511627776) {W : Value → St → Prop}
  (hW : ∀ out1 s1, Wr s0 s1 out1 (L ++ m) → s.next ≤ s1.next → (∀ i, i + 1 ≠ ow out → i < s.next → s1.get i = s.get i) → (ow out1 = ow out ∨ s.next < ow out1) → W out1 s1) : wopK (.append 1 1) [out, .slice (some ⟨s.next, 0, none⟩) n n] (s.new (.row (m.map u8v) g ro)) W := by
 obtain ⟨h1, h2, h3, h4⟩ := h
 have hfn := h4.nx
 refine append_row (h1.keep fun i hi => get_new_ne _ _ _ (by omega)) (get_new_same _ _) hn h0 hsz fun out1 s1 g1 g2 g3 g4 => ?_
 have g3' : s.next + 1 ≤ s1.next := g3
 have g2' : ow out1 = ow out ∨ (ow out1 = s.next + 1 + 1 ∧ s.next + 1 + 1 ≤ s1.next) := g2
 have fr : ∀ i, i + 1 ≠ ow out → i < s.next → s1.get i = s.get i := fun i hi hlt => (g4 i hi (by show i < s.next + 1; omega)).trans (get_new_ne _ _ _ (by omega))
 exact hW out1 s1 ⟨g1, by omega, by omega, ⟨by omega, fun i hi => (fr i (by omega) (by omega)).trans (h4.old i hi)⟩⟩ (by omega) fr (by omega)
section
variable {st : St} {K : Value → St → Prop}

end
end Go.Proofs.YtjomiadmminhfaaGreatDoor
end
