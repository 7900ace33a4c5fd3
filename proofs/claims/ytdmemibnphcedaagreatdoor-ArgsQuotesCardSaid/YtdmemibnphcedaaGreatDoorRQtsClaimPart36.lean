/-
  The chapter's Fit.
  Lists of arguments read: Get, EqArgs.
  ArgsFits on the second machine.
-/
import Derived.Test.YtdmemibnphcedaaGreatDoorRQtsClaimPart30
section
set_option linter.unusedSimpArgs false
set_option linter.unusedVariables false
set_option maxRecDepth 10000
set_option linter.unusedSectionVars false
namespace Go.Proofs.YtdmemibnphcedaaGreatDoor
open Go.Am
attribute [local irreducible] callO wopK ropK popK opK grpsE listE sx Runs

/-! ### values are no longer than the line, and there are no more of them -/
def Sm (L : List UInt8) (m : Nat) (cs : List Cl) : Prop := ∀ k, (clAt cs k).vals.length ≤ m ∧ ∀ v, v ∈ (clAt cs k).vals → v.size ≤ L.length + 1
theorem Sm.upd {L : List UInt8} {m m' : Nat} {cs : List Cl} (h : Sm L m cs) (k : Nat) (f : Cl → Cl) (hm : m ≤ m') (h1 : (f (clAt cs k)).vals.length ≤ m') (h2 : ∀ v, v ∈ (f (clAt cs k)).vals → v.size ≤ L.length + 1) : Sm L m' (upd' cs k f) := fun i => by
  by_cases e : k = i
  · subst e
    by_cases hk : k < cs.length
    · rw [upd_same _ _ _ hk]; exact ⟨h1, h2⟩
    · have : upd' cs k f = cs := List.set_eq_of_length_le (by omega)
      rw [this]; exact ⟨Nat.le_trans (h k).1 hm, (h k).2⟩
  · rw [upd_ne _ _ _ _ e]; exact ⟨Nat.le_trans (h i).1 hm, (h i).2⟩
theorem Sm.mono {L : List UInt8} {m m' : Nat} {cs : List Cl} (h : Sm L m cs) (hm : m ≤ m') : Sm L m' cs := fun i => ⟨Nat.le_trans (h i).1 hm, (h i).2⟩
theorem Sm.push {L : List UInt8} {m : Nat} {cs : List Cl} (h : Sm L m cs) (k : Nat) {w : List UInt8} (hw : w.length ≤ L.length + 1) : Sm L (m + 1) (upd' cs k (Cl.push (bs w))) := by
  refine h.upd k _ (Nat.le_succ _) (by have := (h k).1; simp [Cl.push]; omega) fun v hv => ?_
  rcases List.mem_append.1 hv with hv | hv
  · exact (h k).2 v hv
  · rw [List.mem_singleton.1 hv, bs_size]; exact hw
theorem Sm.rest {L : List UInt8} {m : Nat} {cs : List Cl} (h : Sm L m cs) {p k : Nat} {r : Option (List Cl)} (hr : restA L p k cs = .done r) : ∀ cs', r = some cs' → Sm L (m + 1) cs' := by
  unfold restA at hr
  split at hr
  · cases hr
    rintro cs' ⟨⟩
    refine h.upd k _ (Nat.le_succ _) (by simp [Cl.one]) fun v hv => ?_
    rw [List.mem_singleton.1 hv, bs_size]
    have := trimE_le (L.drop p)
    rw [List.length_drop] at this
    omega
  · cases hr
    intro cs' hh
    cases hh
theorem rest_done {L : List UInt8} {p k : Nat} {cs : List Cl} {a : Nat} {b : List Cl} (h : restA L p k cs = .go a b) : False := by
  unfold restA at h
  split at h <;> cases h

theorem Sm.val {L : List UInt8} {l : List IM} {m fr : Nat} {cs : List Cl} {w : Option (List UInt8 × Bool × Nat)} (h : Sm L m cs) (hw : ∀ a b c, w = some (a, b, c) → a.length ≤ L.length + 1) : (∀ p' cs', valA L l fr w cs = .go p' cs' → Sm L (m + 1) cs') ∧ ∀ cs', valA L l fr w cs = .done (some cs') → Sm L (m + 1) cs' := by
  unfold valA
  split
  · exact ⟨fun _ _ h => (by cases h), fun _ h => (by cases h)⟩
  · split
    · exact ⟨fun _ _ h => (rest_done h).elim, fun cs' hh => h.rest hh cs' rfl⟩
    · split
      · exact ⟨fun _ _ h => (by cases h), fun _ h => (by cases h)⟩
      · rename_i s q to
        split
        · exact ⟨fun _ _ h => (by cases h), fun _ h => (by cases h)⟩
        · refine ⟨fun p' cs' hh => ?_, fun _ h => (by cases h)⟩
          cases hh
          exact h.push _ (hw s q to rfl)
theorem Sm.nam {L : List UInt8} {l : List IM} {m k p : Nat} {cs : List Cl} (h : Sm L m cs) : (∀ p' cs', namA L l k p cs = .go p' cs' → Sm L (m + 1) cs') ∧ ∀ cs', namA L l k p cs = .done (some cs') → Sm L (m + 1) cs' := by
  have hon : Sm L m (upd' cs k Cl.on) := h.upd k _ (Nat.le_refl _) (h k).1 (h k).2
  unfold namA
  split
  · exact ⟨fun _ _ h => (by cases h), fun _ h => (by cases h)⟩
  · split
    · refine ⟨fun p' cs' hh => ?_, fun _ h => (by cases h)⟩
      cases hh
      exact hon.mono (Nat.le_succ _)
    · split
      · exact ⟨fun _ _ h => (by cases h), fun _ h => (by cases h)⟩
      · split
        · exact ⟨fun _ _ h => (rest_done h).elim, fun cs' hh => hon.rest hh cs' rfl⟩
        · exact ⟨fun _ _ h => (by cases h), fun _ h => (by cases h)⟩
      · rename_i s q fr to hn
        split
        · exact ⟨fun _ _ h => (rest_done h).elim, fun cs' hh => hon.rest hh cs' rfl⟩
        · split
          · exact ⟨fun _ _ h => (by cases h), fun _ h => (by cases h)⟩
          · refine ⟨fun p' cs' hh => ?_, fun _ h => (by cases h)⟩
            cases hh
            exact hon.push _ (nxt_len hn)
theorem Sm.step {L : List UInt8} {l : List IM} {m p : Nat} {cs : List Cl} (h : Sm L m cs) : (∀ p' cs', stepA L l p cs = .go p' cs' → Sm L (m + 1) cs') ∧ ∀ cs', stepA L l p cs = .done (some cs') → Sm L (m + 1) cs' := by
  unfold stepA
  split
  · refine ⟨fun _ _ h => (by cases h), fun cs' hh => ?_⟩
    cases hh
    exact h.mono (Nat.le_succ _)
  · exact h.val fun a b c e => by cases e
  · rename_i s q fr to hn
    split
    · exact h.nam
    · refine h.val fun a b c e => ?_
      cases e
      exact nxt_len hn
section
variable {st : St} {K : Value → St → Prop}

end
end Go.Proofs.YtdmemibnphcedaaGreatDoor
end
section
set_option linter.unusedSimpArgs false
set_option linter.unusedVariables false
set_option maxRecDepth 10000
set_option linter.unusedSectionVars false
namespace Go.Proofs.YtdmemibnphcedaaGreatDoor
open Go.Am
attribute [local irreducible] callO wopK ropK popK opK grpsE listE sx Runs

/-- a list of arguments that is read alone, now and later -/
def AgC (st : St) (v : Value) (ns : List ByteArray) (cs : List Cl) : Prop :=
  (∀ K : Value → Prop, popK .lenSl [v] K = K (.int .i64 (cs.length : Nat))) ∧ ∀ j, j < cs.length → ∃ (b : Nat) (vv : Value), (∀ K : Value → Prop, popK (.indexAddr 3) [v, .int .i64 (j : Int)] K = K (.pointer (some ⟨b, j * 3, none⟩))) ∧ oneCell vv = true ∧ ow vv ≤ st.next ∧ ∀ s', Frm st s' →
    (∀ K : Value → Prop, ropK (.loadN 3) [.pointer (some ⟨b, j * 3, none⟩)] s' K = K (.agg #[.string (ns.getD j .empty), vv, .bool (clAt cs j).set])) ∧ (∀ K : Value → Prop, ropK .load1 [.pointer (some ⟨b, j * 3 + 0, none⟩)] s' K = K (.string (ns.getD j .empty))) ∧
    (∀ K : Value → Prop, ropK .load1 [.pointer (some ⟨b, j * 3 + 1, none⟩)] s' K = K vv) ∧ (∀ K : Value → Prop, ropK .load1 [.pointer (some ⟨b, j * 3 + 2, none⟩)] s' K = K (.bool (clAt cs j).set)) ∧ Cel s' vv ((clAt cs j).vals.map Value.string)

theorem rk_loadK_of {st s' : St} {b o k : Nat} (h : s'.get b = st.get b) (K : Value → Prop) : ropK (.loadN k) [.pointer (some ⟨b, o, none⟩)] s' K = ropK (.loadN k) [.pointer (some ⟨b, o, none⟩)] st K := by
  simp only [ropK, rop, St.cells, h]
theorem AgR.agC {ok : Nat → Prop} {g : Bool} {st : St} {v : Value} {ns : List ByteArray} {cs : List Cl} (h : AgR ok g st v ns cs) : AgC st v ns cs := by
  refine ⟨h.len, fun j hj => ?_⟩
  obtain ⟨b, vv, o1, o2, o3, o4, o5, o6, o7, o8, o9⟩ := h.at hj
  obtain ⟨_, onx⟩ := h.okv
  refine ⟨b, vv, o2, o7.2.1, o9, fun s' F => ?_⟩
  have hb : s'.get b = st.get b := F.old b (by omega)
  refine ⟨fun K => ?_, fun K => ?_, fun K => ?_, fun K => ?_, o7.1.keep fun i hi => F.old i (by omega)⟩
  · rw [rk_loadK_of hb]; exact o3 K
  · rw [rk_load1, hb, ← rk_load1]; exact o4 K
  · rw [rk_load1, hb, ← rk_load1]; exact o5 K
  · rw [rk_load1, hb, ← rk_load1]; exact o6 K
theorem AgC.keep {st st' : St} {v : Value} {ns : List ByteArray} {cs : List Cl} (h : AgC st v ns cs) (F : Frm st st') : AgC st' v ns cs := by
  refine ⟨h.1, fun j hj => ?_⟩
  obtain ⟨b, vv, o1, o2, o3, o4⟩ := h.2 j hj
  exact ⟨b, vv, o1, o2, Nat.le_trans o3 F.nx, fun s' F' => o4 s' (F.trans F')⟩
theorem AgC.nil (st : St) : AgC st (.slice none 0 0) [] [] := (AgR.nil (ok := fun _ => True) (g := false) (ns := [])).agC
section
variable {st : St} {K : Value → St → Prop} {ns : List ByteArray} {cs : List Cl} {v u : Value} {x : ByteArray}

end
end Go.Proofs.YtdmemibnphcedaaGreatDoor
end
section
set_option linter.unusedSimpArgs false
set_option linter.unusedVariables false
set_option maxRecDepth 10000
set_option linter.unusedSectionVars false
namespace Go.Proofs.YtdmemibnphcedaaGreatDoor
open Go.Am
attribute [local irreducible] callO wopK ropK popK opK grpsE listE sx Runs

section
variable {st : St} {K : Value → St → Prop}

end
end Go.Proofs.YtdmemibnphcedaaGreatDoor
end
