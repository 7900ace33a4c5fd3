/-
  A text is quoted: by the chapter.
-/
import Derived.Test.YtdmemibnphcedaaGreatDoorRFmtClaimPart30
set_option linter.unusedSimpArgs false
set_option linter.unusedVariables false
set_option maxRecDepth 10000
set_option linter.unusedSectionVars false
namespace Go.Proofs.YtdmemibnphcedaaGreatDoor
open Go.Am

/-- bytes that grow, or the ones that were laid first -/
def GQ (st : St) (v : Value) (l : List UInt8) : Prop := Gro st v l ∨ ∃ b, v = .slice (some ⟨b, 0, none⟩) l.length l.length ∧ st.get b = some (.row (l.map u8v) 0 false) ∧ l ≠ []

section
variable {st st' : St} {v u : Value} {l m : List UInt8}
theorem GQ.bys (h : GQ st v l) : Bys st v l := by
 rcases h with h | ⟨b, h1, h2, h3⟩
 ·exact h.bys
 ·exact .inr (.inl ⟨b, 0, l.length, l.map u8v, 0, false, h1, Nat.le_refl _, h2, .inl rfl, by simp, by rw [List.drop_zero, List.take_of_length_le (by simp)]⟩)
theorem GQ.keep (h : GQ st v l) (hb : ∀ i, i + 1 = ow v → st'.get i = st.get i) : GQ st' v l := by
 rcases h with h | ⟨b, h1, h2, h3⟩
 ·exact .inl (h.keep hb)
 ·subst h1; exact .inr ⟨b, rfl, (hb b rfl).trans h2, h3⟩
theorem appendQ (hd : GQ st v l) (hs : Bys st u m) (hm : m ≠ []) (hsz : l.length + m.length ≤ 1099511627776) {W : Value → St → Prop}
  (h : ∀ v' st', Gro st' v' (l ++ m) → (ow v' = ow v ∨ (ow v' = st.next + 1 ∧ st.next + 1 ≤ st'.next)) → st.next ≤ st'.next → (∀ i, i + 1 ≠ ow v → i < st.next → st'.get i = st.get i) → W v' st') :
  wopK (.append 1 1) [v, u] st W := by
 rcases hd with hd | ⟨b, h1, h2, h3⟩
 ·exact append_go hd hs hsz h
 ·subst h1
  obtain ⟨s1, s2⟩ := hs.src
  have hm0 : m.length ≠ 0 := fun e => hm (List.eq_nil_of_length_eq_zero e)
  have h4 : st.cells ⟨b, 0, none⟩ (l.length * 1) = some (l.map u8v) := by
   simp only [St.cells, h2]
   rw [if_pos (by simp), List.drop_zero, List.take_of_length_le (by simp)]
  simp only [wopK, wop, appendV, s1, s2, hm0, if_false, all_u8, Nat.one_ne_zero, not_true_eq_false, or_self, h2, h4, if_true]
  rw [if_pos ⟨by omega, hsz⟩, if_neg (by omega)]
  refine h _ (st.new (.row (l.map u8v ++ m.map u8v) 1 false)) (.inr (.inl ⟨st.next, 0, l.length + m.length, l.map u8v ++ m.map u8v, by rw [List.length_append]; rfl, by rw [List.length_append]; exact Nat.le_refl _, get_new_same _ _, by simp, ?_⟩)) (.inr ⟨rfl, Nat.le_refl _⟩) (Nat.le_succ _) fun i _ hi => get_new_ne _ _ _ (by omega)
  rw [List.drop_zero, List.take_of_length_le (by simp), List.map_append]
end

theorem rk_strB {st : St} {v : Value} {l : List UInt8} {K : Value → Prop} (h : Bys st v l) (hl : l ≠ []) : ropK .bytesToStr [v] st K = K (.string (bs l)) := by
 rcases h with ⟨h, h'⟩ | ⟨b, o, cap, cs, g, ro, q1, q2, q3, q4, q5, q6⟩ | ⟨ad, h, h'⟩
 ·subst h h'; rfl
 ·subst q1
  exact rk_toStr q3 q6 q5 K
 ·exact absurd h' hl
theorem q_take {l : List UInt8} {j : Nat} {c : UInt8} (h : l[j]? = some c) : (l.take (j + 1)).map qB = (l.take j).map qB ++ [qB c] := by
 rw [List.take_add_one, h]
 simp
theorem esc_one (l : List UInt8) (c : UInt8) : escL (l ++ [c]) = escL l ++ escB c := by
 rw [escL_append]
 simp [escL]
theorem any_one (l : List UInt8) (c : UInt8) : (l ++ [c]).any spc = (l.any spc || spc c) := by simp
theorem escL_nospc (l : List UInt8) (h : l.any spc = false) : escL l = l := by
 refine escL_none l ?_
 unfold nesc
 rw [List.countP_eq_zero]
 intro c hc he
 have hs : spc c = false := by
  rw [List.any_eq_false] at h
  have := h c hc
  cases hh : spc c with
  | true => exact absurd hh this
  | false => rfl
 rcases isE_iff.1 he with rfl | rfl | rfl
 ·exact absurd hs (by decide)
 ·exact absurd hs (by decide)
 ·exact absurd hs (by decide)
theorem spc_no {c : UInt8} (h : c.toNat ≠ 10 ∧ c.toNat ≠ 32 ∧ c.toNat ≠ 34 ∧ c.toNat ≠ 61 ∧ c.toNat ≠ 42) : spc c = false := by
 simp only [spc, List.contains_cons, List.contains_nil, Bool.or_false, Bool.or_eq_false_iff, beq_eq_false_iff_ne]
 refine ⟨?_, ?_, ?_, ?_, ?_⟩ <;> (intro e; subst e; simp at h)
theorem escB_no {c : UInt8} (h : c.toNat ≠ 10 ∧ c.toNat ≠ 34 ∧ c.toNat ≠ 42) : escB c = [c] := by
 refine escB_n ?_
 cases hh : isE c with
 | false => rfl
 | true =>
  rcases isE_iff.1 hh with rfl | rfl | rfl <;> simp at h

attribute [local irreducible] callO wopK ropK popK opK grpsE listE sx Runs

section
variable {st : St} {K : Value → St → Prop}

theorem kQuoteR (n : Nat) (s : ByteArray) (hs : s.size ≤ 40000) (h : ∀ st', Frm st st' → K (.string (bs (quoteL s.data.toList))) st') :
    callK (callO T0 orc fns 100000 (n + 1)) 27 [.string s] st K := by
  refine fn_runs (fn := g27) ?_ ?_ ?_
  · rfl
  · rfl
  unfold g27
  have hsz := size_list s
  have e0 : (s = ByteArray.empty) = (s.data.toList = []) := propext ⟨fun e => by rw [e]; rfl, fun e => ByteArray.ext (by simpa using e)⟩
  simp (disch := omega) only [↓sxA, ↓wk_store, sxB, sxP, simprocAttr]
  by_cases h0 : s = ByteArray.empty
  · subst h0
    rw [if_pos rfl]
    refine loop_rule [0, 3, 4, 5] (fun vs s' => vs = [.string .empty, .bool false, .slice (some ⟨st.next, 0, none⟩) 1 1, .int .i64 0] ∧ s' = st.new (.row [.int .u8 34] 0 false)) (fun vs _ => 0) ?_ ?_ ?_
    · rfl
    · exact ⟨_, rfl, ⟨rfl, rfl⟩, by decide⟩
    · rintro vs s' ⟨rfl, rfl⟩
      show sx _ _ _ _ _ [(0, _), (3, _), (4, _), (5, _)] _ _ _ _
      simp (disch := omega) only [↓sxA, ↓wk_store, sxB, sxP, simprocAttr, show ByteArray.empty.size = 0 from rfl]
      have hQ : GQ (st.new (.row [.int .u8 34] 0 false)) (.slice (some ⟨st.next, 0, none⟩) 1 1) [34] := .inr ⟨st.next, rfl, get_new_same _ _, by decide⟩
      have F := Frm.new st (.row [.int .u8 34] 0 false)
      have n0 : (st.new (.row [.int .u8 34] 0 false)).next = st.next + 1 := rfl
      rw [← n0]
      generalize st.new (.row [.int .u8 34] 0 false) = s' at hQ F n0 ⊢
      have F1 := Frm.new s' (.row [.int .u8 34] 0 false)
      have g1 := get_new_same s' (.row [.int .u8 34] 0 false)
      have n1 : (s'.new (.row [.int .u8 34] 0 false)).next = s'.next + 1 := rfl
      generalize s'.new (.row [.int .u8 34] 0 false) = s1 at F1 g1 n1 ⊢
      have hB : Bys s1 (.slice (some ⟨s'.next, 0, none⟩) 1 1) [34] := .inr (.inl ⟨s'.next, 0, 1, [.int .u8 34], 0, false, rfl, by decide, g1, .inl rfl, by decide, rfl⟩)
      refine appendQ (hQ.keep fun i hi => F1.old i (by have : i = st.next := by simpa [ow] using hi
                                                       omega)) hB (by decide) (by decide) fun v' s2 k1 k2 k3 k4 => ?_
      have rs := fun K => rk_str (K := K) k1
      simp (disch := omega) only [↓sxA, ↓wk_store, sxB, sxP, simprocAttr, ↓rs]
      refine h s2 ⟨by omega, fun i hi => ?_⟩
      rw [k4 i (by show i + 1 ≠ st.next + 1; omega) (by omega), F1.old i (by omega), F.old i hi]
  rw [if_neg h0]
  have h0' : s.data.toList ≠ [] := fun e => h0 (e0 ▸ e)
  refine loop_rule [0, 3, 4, 5] (fun vs s' => ∃ (j : Nat) (v : Value), vs = [.string s, .bool (decide (s.data.toList ≠ []) && !((s.data.toList.take j).map qB).any spc), v, .int .i64 (j : Nat)] ∧ j ≤ s.size ∧ GQ s' v (34 :: escL ((s.data.toList.take j).map qB)) ∧ Frm st s' ∧ st.next + 1 ≤ ow v ∧ ow v ≤ s'.next) (fun vs _ => match lget vs 3 with
      | .int _ k => ((s.size : Int) - k).toNat
      | _ => 0) ?_ ?_ ?_
  · rfl
  · refine ⟨_, rfl, ⟨0, .slice (some ⟨st.next, 0, none⟩) 1 1, ?_, Nat.zero_le _, .inr ⟨st.next, rfl, get_new_same _ _, by simp⟩, Frm.new _ _, Nat.le_refl _, Nat.le_refl _⟩, ?_⟩
    · rw [decide_eq_true h0']
      rfl
    · show ((s.size : Int) - 0).toNat < 100000
      omega
  · rintro vs s' ⟨j, v, rfl, j1, hQ, F, hv1, hv2⟩
    show sx _ _ _ _ _ [(0, _), (3, _), (4, _), (5, _)] _ _ _ _
    by_cases hj : j < s.size
    · obtain ⟨c, hc, hgd, hb⟩ := byte_at s j hj
      have qt := q_take hc
      have ll : (escL ((s.data.toList.take j).map qB)).length ≤ 80000 := by
        have h1 := escL_len ((s.data.toList.take j).map qB)
        have h2 := nesc_le ((s.data.toList.take j).map qB)
        rw [List.length_map, List.length_take] at h1 h2
        omega
      have hmeas : ((s.size : Int) - ((j : Int) + 1)).toNat < ((s.size : Int) - j).toNat := by omega
      by_cases c1 : (c.toNat : Int) = 10
      · have q1 : qB c = 10 := (qB_keep (.inl (by omega))).trans (u8_eq (n := 10) (by omega))
        have q2 : escB (10 : UInt8) = [42, 110] := rfl
        have q3 : spc (10 : UInt8) = true := rfl
        have t10 : ((c.toNat : Int) = 10) = True := eq_true (by omega)
        have tlo : ((c.toNat : Int) < 32) = True := eq_true (by omega)
        have thi : ((126 : Int) < c.toNat) = False := eq_false (by omega)
        have t32 : ((c.toNat : Int) = 32) = False := eq_false (by omega)
        have t34 : ((c.toNat : Int) = 34) = False := eq_false (by omega)
        have t61 : ((c.toNat : Int) = 61) = False := eq_false (by omega)
        have t42 : ((c.toNat : Int) = 42) = False := eq_false (by omega)
        simp (disch := omega) only [q_indexStr, Int.toNat_natCast, hgd, ↓sxA, ↓wk_store, sxB, sxP, simprocAttr, t10, tlo, thi, t32, t34, t61, t42]
        have F1 := Frm.new s' (.row [.int .u8 42, .int .u8 110] 0 false)
        have g1 := get_new_same s' (.row [.int .u8 42, .int .u8 110] 0 false)
        have n1 : (s'.new (.row [.int .u8 42, .int .u8 110] 0 false)).next = s'.next + 1 := rfl
        generalize s'.new (.row [.int .u8 42, .int .u8 110] 0 false) = s1 at F1 g1 n1 ⊢
        have hB : Bys s1 (.slice (some ⟨s'.next, 0, none⟩) 2 2) [42, 110] := .inr (.inl ⟨s'.next, 0, 2, [.int .u8 42, .int .u8 110], 0, false, rfl, by simp, g1, .inl rfl, by simp, by first | rfl | (simp [u8v]; omega)⟩)
        refine appendQ (hQ.keep fun i hi => F1.old i (by omega)) hB (by simp) (by simp only [List.length_cons, List.length_nil]; omega) fun v' s2 k1 k2 k3 k4 => ?_
        simp (disch := omega) only [↓sxA, ↓wk_store, sxB, sxP, simprocAttr]
        refine ⟨_, rfl, ⟨j + 1, v', ?_, hj, .inl ?_, ⟨by omega, fun i hi => ?_⟩, by omega, by omega⟩, hmeas⟩
        · rw [qt, any_one, q1, q3]
          simp
        · rw [qt, esc_one, q1, q2]
          exact k1
        · rw [k4 i (by omega) (by omega), F1.old i (by omega), F.old i hi]
      by_cases c2 : (c.toNat : Int) < 32
      · have q1 : qB c = 63 := qB_q (by omega) (by omega)
        have q2 : escB (63 : UInt8) = [63] := rfl
        have q3 : spc (63 : UInt8) = false := rfl
        have t10 : ((c.toNat : Int) = 10) = False := eq_false (by omega)
        have tlo : ((c.toNat : Int) < 32) = True := eq_true (by omega)
        simp (disch := omega) only [q_indexStr, Int.toNat_natCast, hgd, ↓sxA, ↓wk_store, sxB, sxP, simprocAttr, t10, tlo]
        have F1 := Frm.new s' (.row [.int .u8 63] 0 false)
        have g1 := get_new_same s' (.row [.int .u8 63] 0 false)
        have n1 : (s'.new (.row [.int .u8 63] 0 false)).next = s'.next + 1 := rfl
        generalize s'.new (.row [.int .u8 63] 0 false) = s1 at F1 g1 n1 ⊢
        have hB : Bys s1 (.slice (some ⟨s'.next, 0, none⟩) 1 1) [63] := .inr (.inl ⟨s'.next, 0, 1, [.int .u8 63], 0, false, rfl, by simp, g1, .inl rfl, by simp, by first | rfl | (simp [u8v]; omega)⟩)
        refine appendQ (hQ.keep fun i hi => F1.old i (by omega)) hB (by simp) (by simp only [List.length_cons, List.length_nil]; omega) fun v' s2 k1 k2 k3 k4 => ?_
        simp (disch := omega) only [↓sxA, ↓wk_store, sxB, sxP, simprocAttr]
        refine ⟨_, rfl, ⟨j + 1, v', ?_, hj, .inl ?_, ⟨by omega, fun i hi => ?_⟩, by omega, by omega⟩, hmeas⟩
        · rw [qt, any_one, q1, q3]
          simp
        · rw [qt, esc_one, q1, q2]
          exact k1
        · rw [k4 i (by omega) (by omega), F1.old i (by omega), F.old i hi]
      by_cases c3 : (126 : Int) < c.toNat
      · have q1 : qB c = 63 := qB_q (by omega) (by omega)
        have q2 : escB (63 : UInt8) = [63] := rfl
        have q3 : spc (63 : UInt8) = false := rfl
        have t10 : ((c.toNat : Int) = 10) = False := eq_false (by omega)
        have tlo : ((c.toNat : Int) < 32) = False := eq_false (by omega)
        have thi : ((126 : Int) < c.toNat) = True := eq_true (by omega)
        simp (disch := omega) only [q_indexStr, Int.toNat_natCast, hgd, ↓sxA, ↓wk_store, sxB, sxP, simprocAttr, t10, tlo, thi]
        have F1 := Frm.new s' (.row [.int .u8 63] 0 false)
        have g1 := get_new_same s' (.row [.int .u8 63] 0 false)
        have n1 : (s'.new (.row [.int .u8 63] 0 false)).next = s'.next + 1 := rfl
        generalize s'.new (.row [.int .u8 63] 0 false) = s1 at F1 g1 n1 ⊢
        have hB : Bys s1 (.slice (some ⟨s'.next, 0, none⟩) 1 1) [63] := .inr (.inl ⟨s'.next, 0, 1, [.int .u8 63], 0, false, rfl, by simp, g1, .inl rfl, by simp, by first | rfl | (simp [u8v]; omega)⟩)
        refine appendQ (hQ.keep fun i hi => F1.old i (by omega)) hB (by simp) (by simp only [List.length_cons, List.length_nil]; omega) fun v' s2 k1 k2 k3 k4 => ?_
        simp (disch := omega) only [↓sxA, ↓wk_store, sxB, sxP, simprocAttr]
        refine ⟨_, rfl, ⟨j + 1, v', ?_, hj, .inl ?_, ⟨by omega, fun i hi => ?_⟩, by omega, by omega⟩, hmeas⟩
        · rw [qt, any_one, q1, q3]
          simp
        · rw [qt, esc_one, q1, q2]
          exact k1
        · rw [k4 i (by omega) (by omega), F1.old i (by omega), F.old i hi]
      by_cases c4 : (c.toNat : Int) = 32
      · have q1 : qB c = 32 := (qB_keep (.inr (by omega))).trans (u8_eq (n := 32) (by omega))
        have q2 : escB (32 : UInt8) = [32] := rfl
        have q3 : spc (32 : UInt8) = true := rfl
        have t10 : ((c.toNat : Int) = 10) = False := eq_false (by omega)
        have tlo : ((c.toNat : Int) < 32) = False := eq_false (by omega)
        have thi : ((126 : Int) < c.toNat) = False := eq_false (by omega)
        have t32 : ((c.toNat : Int) = 32) = True := eq_true (by omega)
        have t34 : ((c.toNat : Int) = 34) = False := eq_false (by omega)
        have t61 : ((c.toNat : Int) = 61) = False := eq_false (by omega)
        have t42 : ((c.toNat : Int) = 42) = False := eq_false (by omega)
        simp (disch := omega) only [q_indexStr, Int.toNat_natCast, hgd, ↓sxA, ↓wk_store, sxB, sxP, simprocAttr, t10, tlo, thi, t32, t34, t61, t42]
        have F1 := Frm.new s' (.row [.int .u8 (c.toNat : Int)] 0 false)
        have g1 := get_new_same s' (.row [.int .u8 (c.toNat : Int)] 0 false)
        have n1 : (s'.new (.row [.int .u8 (c.toNat : Int)] 0 false)).next = s'.next + 1 := rfl
        generalize s'.new (.row [.int .u8 (c.toNat : Int)] 0 false) = s1 at F1 g1 n1 ⊢
        have hB : Bys s1 (.slice (some ⟨s'.next, 0, none⟩) 1 1) [32] := .inr (.inl ⟨s'.next, 0, 1, [.int .u8 (c.toNat : Int)], 0, false, rfl, by simp, g1, .inl rfl, by simp, by first | rfl | (simp [u8v]; omega)⟩)
        refine appendQ (hQ.keep fun i hi => F1.old i (by omega)) hB (by simp) (by simp only [List.length_cons, List.length_nil]; omega) fun v' s2 k1 k2 k3 k4 => ?_
        simp (disch := omega) only [↓sxA, ↓wk_store, sxB, sxP, simprocAttr]
        refine ⟨_, rfl, ⟨j + 1, v', ?_, hj, .inl ?_, ⟨by omega, fun i hi => ?_⟩, by omega, by omega⟩, hmeas⟩
        · rw [qt, any_one, q1, q3]
          simp
        · rw [qt, esc_one, q1, q2]
          exact k1
        · rw [k4 i (by omega) (by omega), F1.old i (by omega), F.old i hi]
      by_cases c5 : (c.toNat : Int) = 34
      · have q1 : qB c = 34 := (qB_keep (.inr (by omega))).trans (u8_eq (n := 34) (by omega))
        have q2 : escB (34 : UInt8) = [42, 34] := rfl
        have q3 : spc (34 : UInt8) = true := rfl
        have t10 : ((c.toNat : Int) = 10) = False := eq_false (by omega)
        have tlo : ((c.toNat : Int) < 32) = False := eq_false (by omega)
        have thi : ((126 : Int) < c.toNat) = False := eq_false (by omega)
        have t32 : ((c.toNat : Int) = 32) = False := eq_false (by omega)
        have t34 : ((c.toNat : Int) = 34) = True := eq_true (by omega)
        have t61 : ((c.toNat : Int) = 61) = False := eq_false (by omega)
        have t42 : ((c.toNat : Int) = 42) = False := eq_false (by omega)
        simp (disch := omega) only [q_indexStr, Int.toNat_natCast, hgd, ↓sxA, ↓wk_store, sxB, sxP, simprocAttr, t10, tlo, thi, t32, t34, t61, t42]
        have F1 := Frm.new s' (.row [.int .u8 42, .int .u8 (c.toNat : Int)] 0 false)
        have g1 := get_new_same s' (.row [.int .u8 42, .int .u8 (c.toNat : Int)] 0 false)
        have n1 : (s'.new (.row [.int .u8 42, .int .u8 (c.toNat : Int)] 0 false)).next = s'.next + 1 := rfl
        generalize s'.new (.row [.int .u8 42, .int .u8 (c.toNat : Int)] 0 false) = s1 at F1 g1 n1 ⊢
        have hB : Bys s1 (.slice (some ⟨s'.next, 0, none⟩) 2 2) [42, 34] := .inr (.inl ⟨s'.next, 0, 2, [.int .u8 42, .int .u8 (c.toNat : Int)], 0, false, rfl, by simp, g1, .inl rfl, by simp, by first | rfl | (simp [u8v]; omega)⟩)
        refine appendQ (hQ.keep fun i hi => F1.old i (by omega)) hB (by simp) (by simp only [List.length_cons, List.length_nil]; omega) fun v' s2 k1 k2 k3 k4 => ?_
        simp (disch := omega) only [↓sxA, ↓wk_store, sxB, sxP, simprocAttr]
        refine ⟨_, rfl, ⟨j + 1, v', ?_, hj, .inl ?_, ⟨by omega, fun i hi => ?_⟩, by omega, by omega⟩, hmeas⟩
        · rw [qt, any_one, q1, q3]
          simp
        · rw [qt, esc_one, q1, q2]
          exact k1
        · rw [k4 i (by omega) (by omega), F1.old i (by omega), F.old i hi]
      by_cases c6 : (c.toNat : Int) = 61
      · have q1 : qB c = 61 := (qB_keep (.inr (by omega))).trans (u8_eq (n := 61) (by omega))
        have q2 : escB (61 : UInt8) = [61] := rfl
        have q3 : spc (61 : UInt8) = true := rfl
        have t10 : ((c.toNat : Int) = 10) = False := eq_false (by omega)
        have tlo : ((c.toNat : Int) < 32) = False := eq_false (by omega)
        have thi : ((126 : Int) < c.toNat) = False := eq_false (by omega)
        have t32 : ((c.toNat : Int) = 32) = False := eq_false (by omega)
        have t34 : ((c.toNat : Int) = 34) = False := eq_false (by omega)
        have t61 : ((c.toNat : Int) = 61) = True := eq_true (by omega)
        have t42 : ((c.toNat : Int) = 42) = False := eq_false (by omega)
        simp (disch := omega) only [q_indexStr, Int.toNat_natCast, hgd, ↓sxA, ↓wk_store, sxB, sxP, simprocAttr, t10, tlo, thi, t32, t34, t61, t42]
        have F1 := Frm.new s' (.row [.int .u8 (c.toNat : Int)] 0 false)
        have g1 := get_new_same s' (.row [.int .u8 (c.toNat : Int)] 0 false)
        have n1 : (s'.new (.row [.int .u8 (c.toNat : Int)] 0 false)).next = s'.next + 1 := rfl
        generalize s'.new (.row [.int .u8 (c.toNat : Int)] 0 false) = s1 at F1 g1 n1 ⊢
        have hB : Bys s1 (.slice (some ⟨s'.next, 0, none⟩) 1 1) [61] := .inr (.inl ⟨s'.next, 0, 1, [.int .u8 (c.toNat : Int)], 0, false, rfl, by simp, g1, .inl rfl, by simp, by first | rfl | (simp [u8v]; omega)⟩)
        refine appendQ (hQ.keep fun i hi => F1.old i (by omega)) hB (by simp) (by simp only [List.length_cons, List.length_nil]; omega) fun v' s2 k1 k2 k3 k4 => ?_
        simp (disch := omega) only [↓sxA, ↓wk_store, sxB, sxP, simprocAttr]
        refine ⟨_, rfl, ⟨j + 1, v', ?_, hj, .inl ?_, ⟨by omega, fun i hi => ?_⟩, by omega, by omega⟩, hmeas⟩
        · rw [qt, any_one, q1, q3]
          simp
        · rw [qt, esc_one, q1, q2]
          exact k1
        · rw [k4 i (by omega) (by omega), F1.old i (by omega), F.old i hi]
      by_cases c7 : (c.toNat : Int) = 42
      · have q1 : qB c = 42 := (qB_keep (.inr (by omega))).trans (u8_eq (n := 42) (by omega))
        have q2 : escB (42 : UInt8) = [42, 42] := rfl
        have q3 : spc (42 : UInt8) = true := rfl
        have t10 : ((c.toNat : Int) = 10) = False := eq_false (by omega)
        have tlo : ((c.toNat : Int) < 32) = False := eq_false (by omega)
        have thi : ((126 : Int) < c.toNat) = False := eq_false (by omega)
        have t32 : ((c.toNat : Int) = 32) = False := eq_false (by omega)
        have t34 : ((c.toNat : Int) = 34) = False := eq_false (by omega)
        have t61 : ((c.toNat : Int) = 61) = False := eq_false (by omega)
        have t42 : ((c.toNat : Int) = 42) = True := eq_true (by omega)
        simp (disch := omega) only [q_indexStr, Int.toNat_natCast, hgd, ↓sxA, ↓wk_store, sxB, sxP, simprocAttr, t10, tlo, thi, t32, t34, t61, t42]
        have F1 := Frm.new s' (.row [.int .u8 42, .int .u8 (c.toNat : Int)] 0 false)
        have g1 := get_new_same s' (.row [.int .u8 42, .int .u8 (c.toNat : Int)] 0 false)
        have n1 : (s'.new (.row [.int .u8 42, .int .u8 (c.toNat : Int)] 0 false)).next = s'.next + 1 := rfl
        generalize s'.new (.row [.int .u8 42, .int .u8 (c.toNat : Int)] 0 false) = s1 at F1 g1 n1 ⊢
        have hB : Bys s1 (.slice (some ⟨s'.next, 0, none⟩) 2 2) [42, 42] := .inr (.inl ⟨s'.next, 0, 2, [.int .u8 42, .int .u8 (c.toNat : Int)], 0, false, rfl, by simp, g1, .inl rfl, by simp, by first | rfl | (simp [u8v]; omega)⟩)
        refine appendQ (hQ.keep fun i hi => F1.old i (by omega)) hB (by simp) (by simp only [List.length_cons, List.length_nil]; omega) fun v' s2 k1 k2 k3 k4 => ?_
        simp (disch := omega) only [↓sxA, ↓wk_store, sxB, sxP, simprocAttr]
        refine ⟨_, rfl, ⟨j + 1, v', ?_, hj, .inl ?_, ⟨by omega, fun i hi => ?_⟩, by omega, by omega⟩, hmeas⟩
        · rw [qt, any_one, q1, q3]
          simp
        · rw [qt, esc_one, q1, q2]
          exact k1
        · rw [k4 i (by omega) (by omega), F1.old i (by omega), F.old i hi]
      have q1 : qB c = c := qB_keep (.inr (by omega))
      have q2 : escB (c : UInt8) = [c] := escB_no (by omega)
      have q3 : spc (c : UInt8) = false := spc_no (by omega)
      have t10 : ((c.toNat : Int) = 10) = False := eq_false (by omega)
      have tlo : ((c.toNat : Int) < 32) = False := eq_false (by omega)
      have thi : ((126 : Int) < c.toNat) = False := eq_false (by omega)
      have t32 : ((c.toNat : Int) = 32) = False := eq_false (by omega)
      have t34 : ((c.toNat : Int) = 34) = False := eq_false (by omega)
      have t61 : ((c.toNat : Int) = 61) = False := eq_false (by omega)
      have t42 : ((c.toNat : Int) = 42) = False := eq_false (by omega)
      simp (disch := omega) only [q_indexStr, Int.toNat_natCast, hgd, ↓sxA, ↓wk_store, sxB, sxP, simprocAttr, t10, tlo, thi, t32, t34, t61, t42]
      have F1 := Frm.new s' (.row [.int .u8 (c.toNat : Int)] 0 false)
      have g1 := get_new_same s' (.row [.int .u8 (c.toNat : Int)] 0 false)
      have n1 : (s'.new (.row [.int .u8 (c.toNat : Int)] 0 false)).next = s'.next + 1 := rfl
      generalize s'.new (.row [.int .u8 (c.toNat : Int)] 0 false) = s1 at F1 g1 n1 ⊢
      have hB : Bys s1 (.slice (some ⟨s'.next, 0, none⟩) 1 1) [c] := .inr (.inl ⟨s'.next, 0, 1, [.int .u8 (c.toNat : Int)], 0, false, rfl, by simp, g1, .inl rfl, by simp, by first | rfl | (simp [u8v]; omega)⟩)
      refine appendQ (hQ.keep fun i hi => F1.old i (by omega)) hB (by simp) (by simp only [List.length_cons, List.length_nil]; omega) fun v' s2 k1 k2 k3 k4 => ?_
      simp (disch := omega) only [↓sxA, ↓wk_store, sxB, sxP, simprocAttr]
      refine ⟨_, rfl, ⟨j + 1, v', ?_, hj, .inl ?_, ⟨by omega, fun i hi => ?_⟩, by omega, by omega⟩, hmeas⟩
      · rw [qt, any_one, q1, q3]
        simp
      · rw [qt, esc_one, q1, q2]
        exact k1
      · rw [k4 i (by omega) (by omega), F1.old i (by omega), F.old i hi]
    · have e : s.data.toList.take j = s.data.toList := List.take_of_length_le (by omega)
      rw [e] at hQ ⊢
      rw [decide_eq_true h0', Bool.true_and]
      cases hq : (s.data.toList.map qB).any spc with
      | false =>
        rw [escL_nospc _ hq] at hQ
        have hh := h s' F
        unfold quoteL at hh
        rw [if_pos ⟨h0', hq⟩] at hh
        have sl := fun K => sllo_bys (K := K) hQ.bys .i64 1 (by decide) (by simp only [List.length_cons]; omega)
        have rs := fun K => rk_strB (K := K) (blo_bys hQ.bys 1 (by simp)) (fun e => h0' (List.map_eq_nil_iff.1 e))
        rw [show (List.drop 1 (34 :: s.data.toList.map qB)) = s.data.toList.map qB from rfl] at rs
        simp (disch := omega) only [↓sxA, ↓wk_store, sxB, sxP, simprocAttr, Bool.not_false, ↓sl, show Int.toNat 1 = 1 from rfl, ↓rs]
        exact hh
      | true =>
        have hh := fun s' F => h s' F
        unfold quoteL at hh
        rw [if_neg (by simp [hq])] at hh
        simp (disch := omega) only [↓sxA, ↓wk_store, sxB, sxP, simprocAttr, Bool.not_true]
        have ll : (escL (s.data.toList.map qB)).length ≤ 80000 := by
          have h1 := escL_len (s.data.toList.map qB)
          have h2 := nesc_le (s.data.toList.map qB)
          rw [List.length_map] at h1 h2
          omega
        have F1 := Frm.new s' (.row [.int .u8 34] 0 false)
        have g1 := get_new_same s' (.row [.int .u8 34] 0 false)
        have n1 : (s'.new (.row [.int .u8 34] 0 false)).next = s'.next + 1 := rfl
        generalize s'.new (.row [.int .u8 34] 0 false) = s1 at F1 g1 n1 ⊢
        have hB : Bys s1 (.slice (some ⟨s'.next, 0, none⟩) 1 1) [34] := .inr (.inl ⟨s'.next, 0, 1, [.int .u8 34], 0, false, rfl, by decide, g1, .inl rfl, by decide, rfl⟩)
        refine appendQ (hQ.keep fun i hi => F1.old i (by omega)) hB (by simp) (by simp only [List.length_cons, List.length_nil]; omega) fun v' s2 k1 k2 k3 k4 => ?_
        have rs := fun K => rk_str (K := K) k1
        simp (disch := omega) only [↓sxA, ↓wk_store, sxB, sxP, simprocAttr, ↓rs]
        refine hh s2 ⟨by omega, fun i hi => ?_⟩
        rw [k4 i (by omega) (by omega), F1.old i (by omega), F.old i hi]
end
end Go.Proofs.YtdmemibnphcedaaGreatDoor
