/-
  The chapter's list of arguments, as it is changed.
  The chapter's fitted.
-/
import Derived.Test.YtjomiadmminhfaaGreatDoorSFilClaimPart22
section
set_option linter.unusedSimpArgs false
set_option linter.unusedVariables false
set_option maxRecDepth 10000
set_option linter.unusedSectionVars false
namespace Go.Proofs.YtjomiadmminhfaaGreatDoor
open Go.Am
attribute [local irreducible] callO wopK ropK popK opK grpsE listE sx Runs

theorem AgR.sub {ok ok' : Nat → Prop} {g : Bool} {st : St} {v : Value} {ns : List ByteArray} {cs : List Cl} (h : AgR ok g st v ns cs) (hok : ∀ n, ok n → n ≤ st.next → ok' n) : AgR ok' g st v ns cs := by
 obtain ⟨es, vf, h1, h2, h3, h4, h5⟩ := h
 refine ⟨es, vf, h1, h2.imp id fun h => hok _ h h3, h3, h4, fun j hj => ?_⟩
 obtain ⟨k1, k2, k3, k4⟩ := h5 j hj
 exact ⟨k1, k2.imp id fun h => ⟨hok _ h.1 k3, h.2⟩, k3, k4⟩
theorem AgR.nam {ok : Nat → Prop} {g : Bool} {st : St} {v : Value} {ns : List ByteArray} {cs : List Cl} (h : AgR ok g st v ns cs) (k : Nat) : AgR ok g st v ns (upd' cs k Cl.nam) := by
 obtain ⟨es, vf, h1, h2, h3, h4, h5⟩ := h
 have e : ∀ j, j < cs.length → (clAt (upd' cs k Cl.nam) j).vals = (clAt cs j).vals ∧ (clAt (upd' cs k Cl.nam) j).set = (clAt cs j).set := fun j hj => by
  by_cases e : k = j
  ·subst e; rw [upd_same _ _ _ hj]; exact ⟨rfl, rfl⟩
  ·rw [upd_ne _ _ _ _ e]; exact ⟨rfl, rfl⟩
 refine ⟨es, vf, by rw [upd_len]; exact h1, h2, h3, fun j hj => ?_, fun j hj => ?_⟩
 ·rw [upd_len] at hj
  rw [(e j hj).2]
  exact h4 j hj
 ·rw [upd_len] at hj ⊢
  rw [(e j hj).1]
  exact h5 j hj

/-- the arguments and which were named; a block that may be written besides -/
structure AgS (s0 st : St) (av : Value) (bn b0 : Nat) (l : List IM) (cs : List Cl) : Prop where
 frm : Frm s0 st
 ag : AgR (fun n => s0.next + 1 ≤ n ∧ n ≠ bn + 1 ∧ n ≠ b0 + 1) true st av (l.map nm0) cs
 nmd : ∃ g, st.get bn = some (.row (cs.map fun c => .bool c.nm) g false)
 bn1 : s0.next ≤ bn
 bn2 : bn < st.next
 len : cs.length = l.length

section
variable {s0 st st' : St} {av : Value} {bn b0 k : Nat} {l : List IM} {cs : List Cl}
theorem AgS.keep (h : AgS s0 st av bn b0 l cs) (F : Frm st st') : AgS s0 st' av bn b0 l cs := by
 obtain ⟨g, hg⟩ := h.nmd
 exact ⟨h.frm.trans F, h.ag.keep F.nx fun i _ hi => F.old i hi, ⟨g, (F.old _ h.bn2).trans hg⟩, h.bn1, Nat.lt_of_lt_of_le h.bn2 F.nx, h.len⟩
theorem AgS.box (h : AgS s0 st av bn bn l cs) (hb : st.next ≤ b0) : AgS s0 st av bn b0 l cs := ⟨h.frm, h.ag.sub fun n hn hl => ⟨hn.1, hn.2.1, by omega⟩, h.nmd, h.bn1, h.bn2, h.len⟩
/-- what may be read, and how an item is named -/
theorem AgS.named (h : AgS s0 st av bn b0 l cs) (hk : k < l.length) : ∃ s1, (∀ K : Value → Prop, popK (.indexAddr 1) [.slice (some ⟨bn, 0, none⟩) l.length l.length, .int .i64 (k : Int)] K = K (.pointer (some ⟨bn, k, none⟩))) ∧ (∀ K : Value → Prop, ropK .load1 [.pointer (some ⟨bn, k, none⟩)] st K = K (.bool (clAt cs k).nm)) ∧
  (∀ W : Value → St → Prop, wopK (.store 1) [.pointer (some ⟨bn, k, none⟩), .bool true] st W = W undef s1) ∧ AgS s0 s1 av bn b0 l (upd' cs k Cl.nam) ∧ s1.next = st.next ∧ ∀ i, i ≠ bn → s1.get i = st.get i := by
 obtain ⟨g, hg⟩ := h.nmd
 have hcl := h.len
 have hl : k < (cs.map fun c => Value.bool c.nm).length := by rw [List.length_map]; omega
 refine ⟨st.put bn (some (.row (lputs (cs.map fun c => Value.bool c.nm) k [.bool true]) g false)), fun K => ?_, fun K => ?_, fun W => ?_, ?_, rfl, fun i hi => get_put_ne _ _ _ _ (Ne.symm hi)⟩
 ·rw [pk_indexAddr]
  have e : (0 : Nat) + (k : Int).toNat * 1 = k := by omega
  rw [e]
  exact propext ⟨fun h => h.2, fun h => ⟨⟨by omega, by omega⟩, h⟩⟩
 ·rw [rk_load1, hg]
  simp only [getK, rowK]
  exact nthK_at (map_at cs k (by omega)) K
 ·rw [wk_store, hg]
  simp only [getK, rowK]
  exact propext ⟨fun h => h.2.2, fun h => ⟨rfl, ⟨by first | trivial | rfl, by omega, by rfl⟩, h⟩⟩
 ·have hag := h.ag.keep (st' := st.put bn (some (.row (lputs (cs.map fun c => Value.bool c.nm) k [.bool true]) g false))) (Nat.le_refl _) fun i hi _ => get_put_ne _ _ _ _ (by omega)
  refine ⟨h.frm.put _ h.bn1 _, hag.nam k, ⟨g, ?_⟩, h.bn1, h.bn2, by rw [upd_len]; exact hcl⟩
  rw [map_upd _ _ _ (by omega), get_put_same]
  congr 2
  refine List.ext_getElem? fun i => ?_
  rw [lput1_get _ _ _ hl]
  by_cases e : i = k
  ·subst e; rw [if_pos rfl, List.getElem?_set_self hl]; rfl
  ·rw [if_neg e, List.getElem?_set_ne (Ne.symm e)]

theorem map_same (cs : List Cl) (k : Nat) (f : Cl → Cl) (hf : ∀ c, (f c).nm = c.nm) : (upd' cs k f).map (fun c => Value.bool c.nm) = cs.map fun c => Value.bool c.nm := by
 by_cases hk : k < cs.length
 ·rw [map_upd _ _ _ hk]
  refine List.ext_getElem? fun i => ?_
  by_cases e : k = i
  ·subst e; rw [List.getElem?_set_self (by rw [List.length_map]; exact hk), map_at cs k hk, hf]
  ·rw [List.getElem?_set_ne e]
 ·have : upd' cs k f = cs := List.set_eq_of_length_le (by omega)
  rw [this]

def Cl.vl (w : ByteArray) (c : Cl) : Cl := ⟨c.vals ++ [w], c.set, c.nm⟩
/-- a value more -/
theorem AgS.push (h : AgS s0 st av bn b0 l cs) (hk : k < l.length) (w : ByteArray) (hvl : (clAt cs k).vals.length ≤ 90000) (h0 : b0 < st.next) : ∃ b vv, ow av = b + 1 ∧ b < st.next ∧ (∀ K : Value → Prop, ropK .load1 [.pointer (some ⟨b, k * 3 + 1, none⟩)] st K = K vv) ∧ cellEq vv vv = true ∧
  ∀ W : Value → St → Prop, (∀ v' s7 s8, (∀ W' : Value → St → Prop, wopK (.store 1) [.pointer (some ⟨b, k * 3 + 1, none⟩), v'] s7 W' = W' undef s8) → AgS s0 s8 av bn b0 l (upd' cs k (Cl.vl w)) → (∀ i, i = b0 → s8.get i = st.get i) → st.next ≤ s8.next → W v' s7) →
   wopK (.append 1 16) [vv, .slice (some ⟨st.next, 0, none⟩) 1 1] (st.new (.row [.string w] 0 false)) W := by
 obtain ⟨g, hg⟩ := h.nmd
 have hcl := h.len
 obtain ⟨b, vv, y1, y2, y3, y4, y5, y6, y7, y8, y9⟩ := h.ag.at (j := k) (by omega)
 obtain ⟨okv, onx⟩ := h.ag.okv
 have okb : s0.next + 1 ≤ b + 1 ∧ b + 1 ≠ bn + 1 ∧ b + 1 ≠ b0 + 1 := by
  rcases okv with e | e
  ·omega
  ·rw [y1] at e; exact e
 have hfx := h.frm.nx
 have hb1 := h.bn1
 have hb2 := h.bn2
 refine ⟨b, vv, y1, by omega, y5, (y7.2.2 rfl).ceq, fun W hW => ?_⟩
 obtain ⟨s6, hs6⟩ : ∃ s6, s6 = st.new (.row [.string w] 0 false) := ⟨_, rfl⟩
 have n6 : s6.next = st.next + 1 := by rw [hs6]; rfl
 have f6 : ∀ i, i < st.next → s6.get i = st.get i := fun i hi => by rw [hs6]; exact get_new_ne _ _ _ (by omega)
 have q26 := h.ag.keep (st' := s6) (by omega) fun i _ hi => f6 i hi
 have ld6 : ∀ K : Value → Prop, ropK .load1 [.pointer (some ⟨b, k * 3 + 1, none⟩)] s6 K = K vv := fun K => by
  rw [rk_load1, f6 _ (by omega), ← rk_load1]; exact y5 K
 have hsb : s6.get st.next = some (.row [.string w] 0 false) := by rw [hs6]; exact get_new_same _ _
 rw [← hs6]
 refine appendK ((y7.2.2 rfl).keep fun i hi => f6 i (by omega)) hsb rfl (by decide) rfl (by omega) (by omega) fun s7 k1 k2 k3 => ?_
 have ok8 : ow vv = 0 ∨ (s0.next + 1 ≤ ow vv ∧ ow vv ≠ bn + 1 ∧ ow vv ≠ b0 + 1) := y8.imp id fun h => h.1
 have hvl7 : VlR true s7 (.slice (some ⟨s6.next, 0, none⟩) ((clAt cs k).vals.length + 1) ((clAt cs k).vals.length + 1)) ((clAt cs k).vals ++ [w]) := by
  refine GroK.vl ?_
  rw [List.map_append, List.length_append]
  exact k1
 obtain ⟨s8, z1, z2, z3, z4⟩ := q26.put_vals (j := k) (by omega) (fun c => ⟨(clAt cs k).vals ++ [w], c.set, c.nm⟩) (fun c => ⟨rfl, rfl⟩) y1 (fun h => h) (by omega) ld6 k3 hvl7 (by show s0.next + 1 ≤ s6.next + 1 ∧ s6.next + 1 ≠ bn + 1 ∧ s6.next + 1 ≠ b0 + 1; omega) (by show s6.next < s6.next + 1; omega) (by show s6.next + 1 ≤ s7.next; omega)
 have fr8 : ∀ i, i + 1 ≠ ow vv → i ≠ b → i < st.next → s8.get i = st.get i := fun i h1 h2 h3 => (z4 i h2).trans ((k3 i h1 (by omega)).trans (f6 i h3))
 refine hW _ s7 s8 z1 ⟨⟨by omega, fun i hi => (fr8 i (by omega) (by omega) (by omega)).trans (h.frm.old i hi)⟩, z2, ⟨g, ?_⟩, hb1, by omega, by rw [upd_len]; exact hcl⟩ (fun i hi => fr8 i (by omega) (by omega) (by omega)) (by omega)
 rw [map_same cs k (Cl.vl w) fun c => rfl]
 exact (fr8 _ (by omega) (by omega) hb2).trans hg

end
end Go.Proofs.YtjomiadmminhfaaGreatDoor
end
section
set_option linter.unusedSimpArgs false
set_option linter.unusedVariables false
set_option maxRecDepth 10000
set_option linter.unusedSectionVars false
namespace Go.Proofs.YtjomiadmminhfaaGreatDoor
open Go.Am
attribute [local irreducible] callO wopK ropK popK opK grpsE listE sx Runs

/-- the arguments so far -/
def F1 (s0 : St) (lv : Value) (s : ByteArray) (l : List IM) (vs : List Value) (st : St) : Prop :=
 ∃ (j : Nat) (av : Value), vs = [lv, .string s, av, .int .i64 (j : Nat)] ∧ j ≤ l.length ∧ Frm s0 st ∧ AgR (fun n => s0.next + 1 ≤ n) true st av (l.map nm0) (cls0 (l.take j))
/-- between two words -/
def F2 (s0 : St) (lv av : Value) (bn : Nat) (s : ByteArray) (l : List IM) (vs : List Value) (st : St) : Prop :=
 ∃ (p : Nat) (cs : List Cl), vs = [lv, .string s, av, .slice (some ⟨bn, 0, none⟩) l.length l.length, .int .i64 (p : Nat)] ∧ p ≤ s.size ∧ AgS s0 st av bn bn l cs ∧ Iv l cs ∧ (∀ k, (clAt cs k).vals.length ≤ p) ∧ ∀ q, Fits s.data.toList l p cs q → Fits s.data.toList l 0 (cls0 l) q

section
variable {st : St} {K : Value → St → Prop}

end
end Go.Proofs.YtjomiadmminhfaaGreatDoor
end
