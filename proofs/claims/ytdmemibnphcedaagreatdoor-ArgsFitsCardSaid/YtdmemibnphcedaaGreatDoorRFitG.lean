/-
  The program's name: what stands behind an item's name.
-/
import Derived.Test.YtdmemibnphcedaaGreatDoorRFitF
set_option linter.unusedSimpArgs false
set_option linter.unusedVariables false
set_option maxRecDepth 10000
set_option linter.unusedSectionVars false
namespace Go.Proofs.YtdmemibnphcedaaGreatDoor
open Go.Am
attribute [local irreducible] callO wopK ropK popK opK grpsE listE sx Runs

def Cl.nam (c : Cl) : Cl := ⟨c.vals, c.set, true⟩
def Cl.put (c : Cl) : Cl := ⟨c.vals, true, c.nm⟩

theorem map_upd (cs : List Cl) (k : Nat) (f : Cl → Cl) (hk : k < cs.length) : (upd' cs k f).map (fun c => Value.bool c.nm) = (cs.map fun c => Value.bool c.nm).set k (.bool (f (clAt cs k)).nm) := by
  unfold upd'
  rw [List.map_set]
theorem map_at (cs : List Cl) (k : Nat) (hk : k < cs.length) : (cs.map fun c => Value.bool c.nm)[k]? = some (.bool (clAt cs k).nm) := by
  rw [List.getElem?_map, List.getElem?_eq_getElem hk]
  simp [clAt, List.getD_eq_getElem?_getD, List.getElem?_eq_getElem hk]

section
variable {s0 st : St} {bf p k : Nat} {lv : Value} {s : ByteArray} {l : List IM} {cs : List Cl}
/-- what may be read of the fitter, and how an item is named, and set -/
theorem FtR.open (hF : FtR s0 st bf lv s l p cs) (hk : k < l.length) : ∃ ov bn b s1 s2, st.get bf = some (.row [lv, .string s, .int .i64 (p : Nat), ov, .slice (some ⟨bn, 0, none⟩) l.length l.length] 0 false) ∧
    (∀ K : Value → Prop, popK (.indexAddr 1) [.slice (some ⟨bn, 0, none⟩) l.length l.length, .int .i64 (k : Int)] K = K (.pointer (some ⟨bn, k, none⟩))) ∧ (∀ K : Value → Prop, ropK .load1 [.pointer (some ⟨bn, k, none⟩)] st K = K (.bool (clAt cs k).nm)) ∧
    (∀ K : Value → Prop, popK (.indexAddr 3) [ov, .int .i64 (k : Int)] K = K (.pointer (some ⟨b, k * 3, none⟩))) ∧ (∀ K : Value → Prop, ropK .load1 [.pointer (some ⟨b, k * 3 + 2, none⟩)] st K = K (.bool (clAt cs k).set)) ∧
    (∀ W : Value → St → Prop, wopK (.store 1) [.pointer (some ⟨bn, k, none⟩), .bool true] st W = W undef s1) ∧ FtR s0 s1 bf lv s l p (upd' cs k Cl.nam) ∧ s1.next = st.next ∧ (∀ i, i ≠ bn → s1.get i = st.get i) ∧ s0.next ≤ bn ∧ bn < st.next ∧ bn ≠ bf ∧
    (∀ W : Value → St → Prop, wopK (.store 1) [.pointer (some ⟨b, k * 3 + 2, none⟩), .bool true] st W = W undef s2) ∧ FtR s0 s2 bf lv s l p (upd' cs k Cl.put) := by
  obtain ⟨ov, bn, g, q1, q2, q3, q4, q5, q6⟩ := hF.body
  have hcl := hF.len
  obtain ⟨b, vv, o1, o2, o3, o4, o5, o6, o7, o8, o9⟩ := q2.at (j := k) (by omega)
  obtain ⟨s2, z1, z2, z3, z4⟩ := q2.put_set (j := k) (by omega) Cl.put (fun c => ⟨rfl, rfl⟩) o1
  obtain ⟨okv, onx⟩ := q2.okv
  have okb : s0.next + 1 ≤ b + 1 ∧ b + 1 ≠ bf + 1 ∧ b + 1 ≠ bn + 1 := by
    rcases okv with e | e
    · omega
    · rw [o1] at e; exact e
  have hl : k < (cs.map fun c => Value.bool c.nm).length := by rw [List.length_map]; omega
  have hF2 := hF.bf2
  have hF1 := hF.bf1
  have hfx := hF.frm.nx
  refine ⟨ov, bn, b, st.put bn (some (.row (lputs (cs.map fun c => Value.bool c.nm) k [.bool true]) g false)), s2, q1, fun K => ?_, fun K => ?_, o2, o6, fun W => ?_, ?_, rfl, fun i hi => get_put_ne _ _ _ _ (Ne.symm hi), q4, q5, q6, z1, ?_⟩
  · rw [pk_indexAddr]
    have e : (0 : Nat) + (k : Int).toNat * 1 = k := by omega
    rw [e]
    exact propext ⟨fun h => h.2, fun h => ⟨⟨by omega, by omega⟩, h⟩⟩
  · rw [rk_load1, q3]
    simp only [getK, rowK]
    exact nthK_at (map_at cs k (by omega)) K
  · rw [wk_store, q3]
    simp only [getK, rowK]
    exact propext ⟨fun h => h.2.2, fun h => ⟨rfl, ⟨by first | trivial | rfl, by omega, by rfl⟩, h⟩⟩
  · refine ⟨hF.frm.put _ q4 _, hF1, hF2, hF.items, by rw [upd_len]; exact hcl, ov, bn, g, (get_put_ne _ _ _ _ q6).trans q1, ?_, ?_, q4, q5, q6⟩
    · have h := q2.keep (st' := st.put bn (some (.row (lputs (cs.map fun c => Value.bool c.nm) k [.bool true]) g false))) (Nat.le_refl _) fun i hi _ => get_put_ne _ _ _ _ (by omega)
      obtain ⟨es, vf, h1, h2, h3, h4, h5⟩ := h
      refine ⟨es, vf, by rw [upd_len]; exact h1, h2, h3, fun j hj => ?_, fun j hj => ?_⟩
      · rw [upd_len] at hj
        obtain ⟨a1, a2, a3⟩ := h4 j hj
        refine ⟨a1, a2, ?_⟩
        by_cases e : k = j
        · subst e; rw [upd_same _ _ _ hj]; exact a3
        · rw [upd_ne _ _ _ _ e]; exact a3
      · rw [upd_len] at hj ⊢
        have e : (clAt (upd' cs k Cl.nam) j).vals = (clAt cs j).vals := by
          by_cases e : k = j
          · subst e; rw [upd_same _ _ _ hj]; rfl
          · rw [upd_ne _ _ _ _ e]
        rw [e]
        exact h5 j hj
    · rw [map_upd _ _ _ (by omega), get_put_same]
      congr 2
      refine List.ext_getElem? fun i => ?_
      rw [lput1_get _ _ _ hl]
      by_cases e : i = k
      · subst e; rw [if_pos rfl, List.getElem?_set_self hl]; rfl
      · rw [if_neg e, List.getElem?_set_ne (Ne.symm e)]
  · have hov : ∀ i, i ≠ b → s2.get i = st.get i := z4
    refine ⟨⟨by omega, fun i hi => (hov i (by omega)).trans (hF.frm.old i hi)⟩, hF1, by omega, hF.items, by rw [upd_len]; exact hcl, ov, bn, g, (hov _ (by omega)).trans q1, z2, ?_, q4, by omega, q6⟩
    rw [hov _ (by omega), q3, map_upd _ _ _ (by omega)]
    congr 2
    refine List.ext_getElem? fun i => ?_
    by_cases e : k = i
    · subst e; rw [List.getElem?_set_self hl, map_at cs k (by omega)]; rfl
    · rw [List.getElem?_set_ne e]
end

theorem wdBox (s : St) (a b c : Value) (ha : oneCell a = true) (hb : oneCell b = true) (hc : oneCell c = true) : ∃ s4, (∀ W : Value → St → Prop, wopK (.store 3) [.pointer (some ⟨s.next, 0, none⟩), .agg #[a, b, c]] (s.new (.row [.string .empty, .int .i64 0, .bool false] 0 false)) W = W undef s4) ∧ s4.get s.next = some (.row [a, b, c] 0 false) ∧ s4.next = s.next + 1 ∧ Frm s s4 :=
  ⟨(s.new (.row [.string .empty, .int .i64 0, .bool false] 0 false)).put s.next (some (.row [a, b, c] 0 false)), fun W => wk_storeK (W := W) (get_new_same s (.row [.string .empty, .int .i64 0, .bool false] 0 false)) (o := 0) (k := 3) (xs := [a, b, c]) (by decide) rfl (by simp [ha, hb, hc]), get_put_same _ _ _, rfl, (Frm.new s _).put _ (Nat.le_refl _) _⟩

/-- what a step of the program comes to -/
def StP (s0 : St) (bf : Nat) (lv : Value) (s : ByteArray) (l : List IM) (cs0 : List Cl) (r : Stp) (b : Bool) (st : St) : Prop := match r with
  | .done none => b = false ∧ Frm s0 st
  | .done (some cs) => b = true ∧ FtR s0 st bf lv s l s.size cs ∧ (BadNum l cs → BadNum l cs0)
  | .go p cs => (b = true ∧ FtR s0 st bf lv s l p cs ∧ (BadNum l cs → BadNum l cs0)) ∨ (b = false ∧ Frm s0 st ∧ BadNum l cs)
theorem badKeep {l : List IM} {cs : List Cl} {k : Nat} {f : Cl → Cl} (hf : ∀ v, v ∈ (f (clAt cs k)).vals → v ∈ (clAt cs k).vals ∨ numOk (mkAt l k) v = true) (h : BadNum l (upd' cs k f)) : BadNum l cs := by
  obtain ⟨k', v, h1, h2, h3, h4⟩ := h
  by_cases e : k = k'
  · subst e
    by_cases hk : k < cs.length
    · rw [upd_same _ _ _ hk] at h3
      rcases hf v h3 with h | h
      · exact ⟨k, v, h1, h2, h, h4⟩
      · unfold numOk at h
        rw [h2, h4] at h
        cases h
    · have : upd' cs k f = cs := List.set_eq_of_length_le (by omega)
      rw [this] at h3
      exact ⟨k, v, h1, h2, h3, h4⟩
  · rw [upd_ne _ _ _ _ e] at h3
    exact ⟨k', v, h1, h2, h3, h4⟩
theorem numOk_no {x : Mk} {v : ByteArray} (h : x.n = false) : numOk x v = true := by unfold numOk; rw [h]; rfl

/-- the marks of each item go together -/
def FitL (l : List IM) : Prop := ∀ k, (mkAt l k).fit = true
theorem fit_rest {x : Mk} (h : x.fit = true) (hf : x.f = true) : x.n = false ∧ x.m = false ∧ x.s = false ∧ x.k = false := by
  obtain ⟨a, k, s, n, m, f⟩ := x
  revert h hf a k s n m f
  decide
theorem fit_switch {x : Mk} (h : x.fit = true) (hf : x.s = true) : x.n = false ∧ x.m = false ∧ x.f = false := by
  obtain ⟨a, k, s, n, m, f⟩ := x
  revert h hf a k s n m f
  decide

theorem rest_all {L : List UInt8} (hr : L.all prn = true) (q : Nat) : (L.drop q).all prn = true := by
  rw [List.all_eq_true] at hr ⊢
  exact fun x hx => hr x (List.mem_of_mem_drop hx)

/-- a value that is laid on, and is no number -/
theorem badNum {l : List IM} {cs : List Cl} {k : Nat} {w : ByteArray} (hk : k < l.length) (hc : cs.length = l.length) (f : Cl → Cl) (hf : w ∈ (f (clAt cs k)).vals) (h : numOk (mkAt l k) w = false) : BadNum l (upd' cs k f) := by
  unfold numOk at h
  simp only [Bool.or_eq_false_iff, Bool.not_eq_false', Option.isSome_eq_false_iff, Option.isNone_iff_eq_none] at h
  exact ⟨k, w, hk, h.1, by rw [upd_same _ _ _ (by omega)]; exact hf, h.2⟩

theorem sign_iff (w : List UInt8) (q : Bool) : (decide (bs w = ⟨#[61]⟩) && !q) = true ↔ (q = false ∧ w = [61]) := by
  simp only [Bool.and_eq_true, decide_eq_true_eq, Bool.not_eq_true']
  constructor
  · rintro ⟨h1, h2⟩; exact ⟨h2, bs_inj h1⟩
  · rintro ⟨h1, h2⟩; exact ⟨by rw [h2]; rfl, h1⟩
end Go.Proofs.YtdmemibnphcedaaGreatDoor
