/-
  Usage, by the chapter.
-/
import Derived.Test.YtdmemibnphcedaaGreatDoorRBckClaimPart22
set_option linter.unusedSimpArgs false
set_option linter.unusedVariables false
set_option maxRecDepth 10000
set_option linter.unusedSectionVars false
namespace Go.Proofs.YtdmemibnphcedaaGreatDoor
open Go.Am

section
variable {st st' : St} {v u : Value} {l m : List UInt8} {K : Value → Prop}
theorem append_src (hd : Gro st v l) (s1 : srcLen u = some m.length) (s2 : st.srcCells 1 u = some (m.map u8v)) (hsz : l.length + m.length ≤ 1099511627776) {W : Value → St → Prop}
  (h : ∀ v' st', Gro st' v' (l ++ m) → (ow v' = ow v ∨ (ow v' = st.next + 1 ∧ st.next + 1 ≤ st'.next)) → st.next ≤ st'.next → (∀ i, i + 1 ≠ ow v → i < st.next → st'.get i = st.get i) → W v' st') :
  wopK (.append 1 1) [v, u] st W := by
 simp only [wopK, wop, appendV, s1, s2]
 by_cases hm : m = []
 ·subst hm
  simp only [List.length_nil, if_true]
  obtain ⟨a, cap, rfl⟩ := hd.bys.cap
  simp only
  refine h _ st ?_ (.inl rfl) (Nat.le_refl _) (fun _ _ _ => rfl)
  simpa using hd
 ·have hm0 : m.length ≠ 0 := fun e => hm (List.eq_nil_of_length_eq_zero e)
  simp only [hm0, if_false, all_u8, Nat.one_ne_zero, not_true_eq_false, or_self]
  have fin : ∀ (st0 : St), st0.next = st.next → (∀ i, i + 1 ≠ ow v → st0.get i = st.get i) → W (.slice (some ⟨st.next, 0, none⟩) (l.length + m.length) (l.length + m.length)) (st0.new (.row (l.map u8v ++ m.map u8v) 1 false)) := by
   intro st0 e1 e2
   refine h _ _ ?_ (.inr ⟨rfl, ?_⟩) ?_ (fun i hi hlt => ?_)
   ·refine .inr (.inl ⟨st.next, 0, l.length + m.length, l.map u8v ++ m.map u8v, ?_, ?_, ?_, ?_, ?_⟩)
    ·simp
    ·simp
    ·rw [← e1, St.get_new, if_pos rfl]
    ·simp
    ·rw [List.map_append, List.drop_zero, List.take_of_length_le (by simp)]
   ·show st.next + 1 ≤ st0.next + 1; omega
   ·show st.next ≤ st0.next + 1; omega
   ·rw [St.get_new, if_neg (by omega), e2 i hi]
  rcases hd with ⟨q, q'⟩ | ⟨b, o, cap, cs, q1, q2, q3, q5, q6⟩ | ⟨b, o, cs, ro, q1, q2, q3, q4⟩
  ·subst q q'
   simp only
   rw [if_pos (by simp at hsz; omega)]
   have := fin st rfl (fun _ _ => rfl)
   simpa [St.grow] using this
  ·subst q1
   simp only
   rw [if_pos (by omega)]
   have hc : st.cells ⟨b, o, none⟩ (l.length * 1) = some (l.map u8v) := by
    simp only [St.cells, q3, Nat.mul_one]
    rw [if_pos q5, q6]
   simp only [q3, hc, Nat.one_ne_zero, if_false, true_and]
   rw [if_pos (by omega)]
   have := fin (st.put b none) rfl (fun i hi => by rw [St.get_put, if_neg (fun e => hi (by show i + 1 = b + 1; omega))])
   simpa [St.grow] using this
  ·subst q1 q2
   simp only
   rw [if_pos (by simp at hsz; omega)]
   have hc : st.cells ⟨b, o, none⟩ (0 * 1) = some [] := by
    simp only [St.cells, q3, Nat.zero_mul, Nat.add_zero, List.take_zero]
    rw [if_pos q4]
   simp only [q3, hc, if_true]
   rw [if_neg (by omega)]
   have := fin st rfl (fun _ _ => rfl)
   simpa [St.grow] using this


theorem append_str (hd : Gro st v l) (b : ByteArray) (hsz : l.length + b.size ≤ 1099511627776) {W : Value → St → Prop}
  (h : ∀ v' st', Gro st' v' (l ++ b.data.toList) → (ow v' = ow v ∨ (ow v' = st.next + 1 ∧ st.next + 1 ≤ st'.next)) → st.next ≤ st'.next → (∀ i, i + 1 ≠ ow v → i < st.next → st'.get i = st.get i) → W v' st') :
  wopK (.append 1 1) [v, .string b] st W :=
 append_src hd (by simp only [srcLen]; rw [size_list]) (by simp [St.srcCells, u8v]) (by rw [← size_list]; exact hsz) h
theorem append_row {b g n : Nat} {ro : Bool} (hd : Gro st v l) (hb : st.get b = some (.row (m.map u8v) g ro)) (hn : m.length = n) (h0 : 0 < n) (hsz : l.length + m.length ≤ 1099511627776) {W : Value → St → Prop}
  (h : ∀ v' st', Gro st' v' (l ++ m) → (ow v' = ow v ∨ (ow v' = st.next + 1 ∧ st.next + 1 ≤ st'.next)) → st.next ≤ st'.next → (∀ i, i + 1 ≠ ow v → i < st.next → st'.get i = st.get i) → W v' st') :
  wopK (.append 1 1) [v, .slice (some ⟨b, 0, none⟩) n n] st W := by
 subst hn
 refine append_src hd rfl ?_ hsz h
 simp only [St.srcCells, St.cells, hb]
 rw [if_neg (by omega), if_pos (by rw [List.length_map]; show 0 + m.length * 1 ≤ _; omega), List.drop_zero, List.take_of_length_le (by rw [List.length_map]; omega)]
end
attribute [local irreducible] callO wopK ropK popK opK grpsE listE sx Runs

/-- what was written so far -/
def Wr (s0 s : St) (out : Value) (L : List UInt8) : Prop := Gro s out L ∧ (ow out = 0 ∨ s0.next + 1 ≤ ow out) ∧ ow out ≤ s.next ∧ Frm s0 s

theorem Wr.row {s0 s : St} {out : Value} {L m : List UInt8} {g n : Nat} {ro : Bool} (h : Wr s0 s out L) (hn : m.length = n) (h0 : 0 < n) (hsz : L.length + m.length ≤ 1099511627776) {W : Value → St → Prop}
  (hW : ∀ out1 s1, Wr s0 s1 out1 (L ++ m) → s.next ≤ s1.next → (∀ i, i + 1 ≠ ow out → i < s.next → s1.get i = s.get i) → (ow out1 = ow out ∨ s.next < ow out1) → W out1 s1) : wopK (.append 1 1) [out, .slice (some ⟨s.next, 0, none⟩) n n] (s.new (.row (m.map u8v) g ro)) W := by
 obtain ⟨h1, h2, h3, h4⟩ := h
 have hfn := h4.nx
 refine append_row (h1.keep fun i hi => get_new_ne _ _ _ (by omega)) (get_new_same _ _) hn h0 hsz fun out1 s1 g1 g2 g3 g4 => ?_
 have g3' : s.next + 1 ≤ s1.next := g3
 have g2' : ow out1 = ow out ∨ (ow out1 = s.next + 1 + 1 ∧ s.next + 1 + 1 ≤ s1.next) := g2
 have fr : ∀ i, i + 1 ≠ ow out → i < s.next → s1.get i = s.get i := fun i hi hlt => (g4 i hi (by show i < s.next + 1; omega)).trans (get_new_ne _ _ _ (by omega))
 exact hW out1 s1 ⟨g1, by omega, by omega, ⟨by omega, fun i hi => (fr i (by omega) (by omega)).trans (h4.old i hi)⟩⟩ (by omega) fr (by omega)
theorem Wr.str {s0 s : St} {out : Value} {L : List UInt8} (h : Wr s0 s out L) (b : ByteArray) (hsz : L.length + b.size ≤ 1099511627776) {W : Value → St → Prop}
  (hW : ∀ out1 s1, Wr s0 s1 out1 (L ++ b.data.toList) → s.next ≤ s1.next → (∀ i, i + 1 ≠ ow out → i < s.next → s1.get i = s.get i) → (ow out1 = ow out ∨ s.next < ow out1) → W out1 s1) : wopK (.append 1 1) [out, .string b] s W := by
 obtain ⟨h1, h2, h3, h4⟩ := h
 have hfn := h4.nx
 refine append_str h1 b hsz fun out1 s1 g1 g2 g3 g4 => ?_
 exact hW out1 s1 ⟨g1, by omega, by omega, ⟨by omega, fun i hi => (g4 i (by omega) (by omega)).trans (h4.old i hi)⟩⟩ g3 g4 (by omega)

section
variable {st : St} {K : Value → St → Prop}

end
end Go.Proofs.YtdmemibnphcedaaGreatDoor
