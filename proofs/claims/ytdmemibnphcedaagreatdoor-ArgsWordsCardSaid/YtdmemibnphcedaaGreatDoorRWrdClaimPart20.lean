/-
  Lists of arguments read: Get, EqArgs.
  ArgsFits on the second machine.
-/
import Derived.Test.YtdmemibnphcedaaGreatDoorRWrdClaimPart19
section
set_option linter.unusedSimpArgs false
set_option linter.unusedVariables false
set_option maxRecDepth 10000
set_option linter.unusedSectionVars false
namespace Go.Proofs.YtdmemibnphcedaaGreatDoor
open Go.Am
attribute [local irreducible] callO wopK ropK popK opK grpsE listE sx Runs

/-- a list of arguments that is read alone, now and later -/
def AgC (st : St) (v : Value) (ns : List ByteArray) (cs : List Cl) : Prop :=
  (∀ K : Value → Prop, popK .lenSl [v] K = K (.int .i64 (cs.length : Nat))) ∧ ∀ j, j < cs.length → ∃ (b : Nat) (vv : Value), (∀ K : Value → Prop, popK (.indexAddr 3) [v, .int .i64 (j : Int)] K = K (.pointer (some ⟨b, j * 3, none⟩))) ∧ oneCell vv = true ∧ ow vv ≤ st.next ∧ ∀ s', Frm st s' →
    (∀ K : Value → Prop, ropK (.loadN 3) [.pointer (some ⟨b, j * 3, none⟩)] s' K = K (.agg #[.string (ns.getD j .empty), vv, .bool (clAt cs j).set])) ∧ (∀ K : Value → Prop, ropK .load1 [.pointer (some ⟨b, j * 3 + 0, none⟩)] s' K = K (.string (ns.getD j .empty))) ∧
    (∀ K : Value → Prop, ropK .load1 [.pointer (some ⟨b, j * 3 + 1, none⟩)] s' K = K vv) ∧ (∀ K : Value → Prop, ropK .load1 [.pointer (some ⟨b, j * 3 + 2, none⟩)] s' K = K (.bool (clAt cs j).set)) ∧ Cel s' vv ((clAt cs j).vals.map Value.string)

theorem rk_loadK_of {st s' : St} {b o k : Nat} (h : s'.get b = st.get b) (K : Value → Prop) : ropK (.loadN k) [.pointer (some ⟨b, o, none⟩)] s' K = ropK (.loadN k) [.pointer (some ⟨b, o, none⟩)] st K := by
  simp only [ropK, rop, St.cells, h]
theorem AgR.agC {ok : Nat → Prop} {g : Bool} {st : St} {v : Value} {ns : List ByteArray} {cs : List Cl} (h : AgR ok g st v ns cs) : AgC st v ns cs := by
  refine ⟨h.len, fun j hj => ?_⟩
  obtain ⟨b, vv, o1, o2, o3, o4, o5, o6, o7, o8, o9⟩ := h.at hj
  obtain ⟨_, onx⟩ := h.okv
  refine ⟨b, vv, o2, o7.2.1, o9, fun s' F => ?_⟩
  have hb : s'.get b = st.get b := F.old b (by omega)
  refine ⟨fun K => ?_, fun K => ?_, fun K => ?_, fun K => ?_, o7.1.keep fun i hi => F.old i (by omega)⟩
  · rw [rk_loadK_of hb]; exact o3 K
  · rw [rk_load1, hb, ← rk_load1]; exact o4 K
  · rw [rk_load1, hb, ← rk_load1]; exact o5 K
  · rw [rk_load1, hb, ← rk_load1]; exact o6 K
theorem AgC.keep {st st' : St} {v : Value} {ns : List ByteArray} {cs : List Cl} (h : AgC st v ns cs) (F : Frm st st') : AgC st' v ns cs := by
  refine ⟨h.1, fun j hj => ?_⟩
  obtain ⟨b, vv, o1, o2, o3, o4⟩ := h.2 j hj
  exact ⟨b, vv, o1, o2, Nat.le_trans o3 F.nx, fun s' F' => o4 s' (F.trans F')⟩
theorem AgC.nil (st : St) : AgC st (.slice none 0 0) [] [] := (AgR.nil (ok := fun _ => True) (g := false) (ns := [])).agC
section
variable {st : St} {K : Value → St → Prop} {ns : List ByteArray} {cs : List Cl} {v u : Value} {x : ByteArray}

end
end Go.Proofs.YtdmemibnphcedaaGreatDoor
end
section
set_option linter.unusedSimpArgs false
set_option linter.unusedVariables false
set_option maxRecDepth 10000
set_option linter.unusedSectionVars false
namespace Go.Proofs.YtdmemibnphcedaaGreatDoor
open Go.Am
attribute [local irreducible] callO wopK ropK popK opK grpsE listE sx Runs

section
variable {st : St} {K : Value → St → Prop}

end
end Go.Proofs.YtdmemibnphcedaaGreatDoor
end
